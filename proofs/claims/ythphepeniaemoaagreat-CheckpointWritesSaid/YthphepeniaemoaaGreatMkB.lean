/- A writer through a chain of calls: one footprint from end to end. Conditions: as the calls have them. -/
import Derived.Test.YthphepeniaemoaaGreatWriter
import Derived.Test.YthphepeniaemoaaGreatLoad
import Derived.Test.YthphepeniaemoaaGreatMark
set_option linter.unusedSimpArgs false
set_option linter.unusedVariables false
set_option linter.unnecessarySimpa false
set_option maxHeartbeats 16000000
set_option maxRecDepth 100000
open Go.Proofs.Tryz
namespace Go.Proofs.YthphepeniaemoaaGreat
open Go.RowKit
/-- S, what lies in w alone -/
def tight (S:Nat->Prop) (w:World):Nat->Prop:=fun k=>S k/\k<w.heap.size
theorem Wr.tight {w:World} {S:Nat->Prop} {B:Nat} {l:Bytes} (h:Wr w S B l):Wr w (tight S w) B l:=by
 obtain ⟨h1,v,base,h2,h3,h4⟩:=h;refine ⟨⟨h1,lt_of_block h2⟩,v,base,h2,h3,fun g hg=>⟨⟨(h4 g hg).1,?_⟩,(h4 g hg).2⟩⟩;rcases h3.2 with ⟨hv,hn⟩ | ⟨g',cap,cur,hv,hbs,hgg,rest⟩
 ·rw [hv] at hg;cases hg
 ·rw [hv] at hg
  obtain rfl:g'=g:=by simpa [Value.ownBlock] using hg
  exact lt_of_block hgg
/-- since w0: the writer in block B has come to hold l; nothing of w0 has turned but S -/
structure Hold (S:Nat->Prop) (w0:World) (B:Nat) (w:World) (l:Bytes):Prop where
 wr:Wr w (grow S w0) B l
 fr:Fr S w0 w
variable {S:Nat->Prop} {w0 w w2:World} {B:Nat} {l m:Bytes}
theorem Hold.start (h:Wr w S B l):Hold S w B w l:=⟨h.mono fun _ g=>bb g,Fr.refl _ _⟩
theorem Hold.after (h:Hold S w0 B w l) (hw:Wr w2 (grow (Proofs.YthphepeniaemoaaGreat.tight (grow S w0) w) w) B m) (hf:Fr (Proofs.YthphepeniaemoaaGreat.tight (grow S w0) w) w w2):Hold S w0 B w2 m:=by
 refine ⟨hw.mono fun k g=>?_,h.fr.trans (hf.mono fun k _ g=>g.1)⟩;rcases g with g | g
 ·exact g.1
 ·exact bd (Nat.le_trans h.fr.size g)
theorem Hold.below (h:Hold S w0 B w l) (hb:Below w.heap.size w w2):Hold S w0 B w2 l :=
 ⟨h.wr.frame (Fr.of_below (S:=fun _=>False) hb) (fun _ _ g=>g),h.fr.trans ((Fr.of_below (S:=fun _=>False) hb).mono fun _ _ g=>g.elim)⟩
theorem Hold.drew (h:Hold S w0 B w l):Hold S w0 B w.drew l:=h.below (bh w.heap.size w).drew
theorem Hold.kept (h:Hold S w0 B w l) {p:Addr} {v:Value} (hc:w0.cell? p=some v) (hs:¬ S p.block):w.cell? p=some v:=h.fr.kept hc hs
theorem Hold.range (h:Hold S w0 B w l) {b o:Nat} {cs:List Value} (hc:w0.rangeAt b o cs) (hs:¬ S b):w.rangeAt b o cs:=fun j v hv=>h.kept (hc j v hv) hs
def rF (S:Nat->Prop) (w0:World) (B:Nat) (m:Bytes) (e:Ending) (w':World):Prop:=e=.returned (.pointer (some ⟨B,0,none⟩))/\Hold S w0 B w' m
theorem Hold.retWr (h:Hold S w0 B w l) {e:Ending} (k:Jq (Proofs.YthphepeniaemoaaGreat.tight (grow S w0) w) B m w e w2):rF S w0 B m e w2:=⟨k.1,h.after k.2.1 k.2.2⟩
theorem zD (h:Hold S w0 B w l) (n:Nat) (hl:l.length<=268435456) (hn:n<18446744073709551616) :
 Calls prog 64 #[.pointer (some ⟨B,0,none⟩),.int .u64 n] w (rF S w0 B (l++aj n)) :=
 (rG _ B l n w (by omega) hn h.wr.tight).mono fun _ _ k=>h.retWr k
theorem WM (h:Hold S w0 B w l) (n:Int) (hl:l.length<=268435456) (h0 : -4398046511104<=n) (h1:n<=4398046511104) :
 Calls prog 163 #[.pointer (some ⟨B,0,none⟩),.int .i64 n] w (rF S w0 B (l++rV n)) :=
 (TJ _ B l n w (by omega) h0 h1 h.wr.tight).mono fun _ _ k=>h.retWr k
theorem Df (h:Hold S w0 B w l) (s:ByteArray) (hl:l.length<=268435456) (hs:s.size<=268435456) :
 Calls prog 66 #[.pointer (some ⟨B,0,none⟩),.string s] w (rF S w0 B (l++bW (bl s))) :=
 (Rh _ B l s w hl hs h.wr.tight).mono fun _ _ k=>h.retWr k
theorem TP (h:Hold S w0 B w l) (A:Nat) (fs:List Bool) (hl:l.length<=268435456) (hf:fs.length<=8) (hb:nC w A fs) :
 Calls prog 162 #[.pointer (some ⟨B,0,none⟩),.slice (some ⟨A,0,none⟩) fs.length fs.length] w (rF S w0 B (l++[UInt8.ofNat (dQ fs)])) :=
 (Pm _ B l A fs w (by omega) hf h.wr.tight hb).mono fun _ _ k=>h.retWr k
def xU (S:Nat->Prop) (w0:World) (B:Nat) (m:Bytes) (e:Ending) (w':World):Prop:=e=.returned (.tuple #[])/\Hold S w0 B w' m
theorem xI (h:Hold S w0 B w l) (d:Dot) (hl:l.length<=268435456) :
 Calls prog 119 #[.pointer (some ⟨B,0,none⟩),.agg #[.int .i64 d.a.dev,.int .i64 d.a.inc,.int .i64 d.seq]] w (xU S w0 B (l++jy d)) :=
 (KZ _ B l d w (by omega) h.wr.tight (fun _ g=>g.2)).mono fun _ _ k=>⟨k.1,h.after k.2.1 k.2.2⟩
theorem CW (h:Hold S w0 B w l) (d:Stamp) (hl:l.length<=268435456) :
 Calls prog 65 #[.pointer (some ⟨B,0,none⟩),.agg #[.int .i64 d.wall,.int .i64 d.count,.int .i64 d.dev]] w (xU S w0 B (l++dE d)) :=
 (Gj _ B l d w (by omega) h.wr.tight (fun _ g=>g.2)).mono fun _ _ k=>⟨k.1,h.after k.2.1 k.2.2⟩
theorem Jo (h:Hold S w0 B w l) (hl:l.length<=268435456):Calls prog 68 #[.pointer (some ⟨B,0,none⟩)] w (dO l w) :=
 LG _ B l w (by omega) h.wr
def bV (l:List Dot):Bytes:=(l.map jy).flatten
def yI (e:Ev):Bytes:=jy e.dot++dE e.stamp++[UInt8.ofNat (dQ [e.kind == 1,e.ck.hostOnly,e.ck.secure,e.ck.httpOnly,e.ck.persistent])]++aj e.over.length++bV e.over
def lG (e:Ev):Bytes:=if e.kind=1 then bW (bl e.key.name)++bW (bl e.key.domain)++bW (bl e.key.path)++bW (bl e.ck.value)++rV e.ck.expiry++aj e.ck.creation.toNat++aj e.ck.access.toNat else []
def evB (e:Ev):Bytes:=yI e++lG e
theorem RI {S:Nat->Prop} {w0 w:World} {B:Nat} {l:Bytes} (h:Hold S w0 B w l) (b0 b1 b2 b3 b4:Bool) (hl:l.length<=268435456) :
 Calls prog 162 #[.pointer (some ⟨B,0,none⟩),.slice (some ⟨w.heap.size,0,none⟩) 5 5] (w.alloc (Obj.cells #[.bool b0,.bool b1,.bool b2,.bool b3,.bool b4] 4)) (rF S w0 B (l++[UInt8.ofNat (dQ [b0,b1,b2,b3,b4])])):=by
 refine TP (h.below ((bh _ _).alloc (ar _) _)) w.heap.size [b0,b1,b2,b3,b4] hl (by simp) ?_;intro j hj;rw [World.cell?_alloc_new];rcases j with _ | _ | _ | _ | _ | j;all_goals first
  | rfl
  | (simp only [List.length_cons,List.length_nil] at hj;omega)
theorem oJ (d:Dot):(jy d).length<=30:=by
 unfold jy;split
 ·rename_i h
  unfold bn jk at h;simp at h;have l1:=aQ d.a.dev.toNat (by omega);have l2:=aQ d.a.inc.toNat (by omega);have l3:=aQ d.seq.toNat (by omega);simp;omega
 ·simp
theorem fJ:∀ l:List Dot,(bV l).length<=30 * l.length
 | []=>by simp [bV]
 | d :: r=>by
   have h1:=oJ d;have h2:=fJ r;unfold bV at h2 ⊢;simp only [List.map_cons,List.flatten_cons,av,List.length_cons];omega
theorem lH (l:List Dot) (d:Dot):bV (l++[d])=bV l++jy d:=by simp [bV]
theorem qI (d:Stamp):(dE d).length<=30:=by
 unfold dE;split
 ·rename_i h
  unfold dI at h;simp at h;have l1:=aQ d.wall.toNat (by omega);have l2:=aQ d.count.toNat (by omega);have l3:=aQ d.dev.toNat (by omega);simp;omega
 ·simp
theorem Hold.rebase {S:Nat->Prop} {w W w':World} {B:Nat} {l:Bytes} (h:Hold (tight S w) W B w' l) (hb:Below w.heap.size w W):Hold S w B w' l:=by
 refine ⟨h.wr.mono fun k g=>?_,((Fr.of_below (S:=S) hb)).trans (h.fr.mono fun k _ g=>bb g.1)⟩;rcases g with g | g
 ·exact bb g.1
 ·exact bd (Nat.le_trans hb.size g)
theorem FK {w:World} {b:Nat} {cs:List Value} (h:w.rangeAt b 0 cs) (o:Nat) (ds:List Value) (hd:∀ j v,ds[j]?=some v->cs[o+j]?=some v):w.rangeAt b o ds:=fun j v hv=>by
 have:=h (o+j) v (hd j v hv);rwa [aw] at this
theorem Tu (e:Ev) (a:Option Addr) (cap:Nat):∀ j v,(uC e.ck)[j]?=some v->(az e a cap)[10+j]?=some v:=by
 intro j v hv;rcases j with _ | _ | _ | _ | _ | _ | _ | _ | j;all_goals first
  | (simp at hv;done)
  | (simpa [az] using hv)
structure EvTiny (e:Ev):Prop where
 name:e.key.name.size<=16777216
 domain:e.key.domain.size<=16777216
 path:e.key.path.size<=16777216
 value:e.ck.value.size<=16777216
theorem pY (l:Bytes) (h:l.length<18446744073709551616):(bW l).length<=l.length+10:=by
 unfold bW;have:=aQ l.length h;simp only [av];omega
theorem Ac (n:Int) (h0 : -4398046511104<=n) (h1:n<=4398046511104):(rV n).length<=10:=aQ _ (by have:=Fb n h0 h1;omega)
structure EvFit (e:Ev):Prop where
 over:e.over.length<=64
 kind:e.kind=1\/e.kind=2
 item:e.kind=1->(0<=e.ck.creation/\e.ck.creation<=1099511627776)/\(0<=e.ck.access/\e.ck.access<=1099511627776)/\(-1099511627776<=e.ck.expiry/\e.ck.expiry<=1099511627776)
theorem qy {e:Ev} (h:dm e=true):EvFit e:=by
 unfold dm kindOk at h;simp only [Bool.and_eq_true,decide_eq_true_eq] at h;obtain ⟨_,_,_,h4,h5⟩:=h;refine ⟨?_,?_,fun h1=>?_⟩
 ·unfold overOk at h4;simp at h4;exact h4.1
 ·by_cases h2:e.kind=2
  ·exact bd h2
  ·rw [if_neg h2] at h5
   by_cases h1:e.kind=1
   ·exact bb h1
   ·rw [if_neg h1] at h5;cases h5
 ·rw [if_neg (by omega),if_pos h1] at h5
  unfold gq oZ at h5;simp only [Bool.and_eq_true,decide_eq_true_eq] at h5;obtain ⟨_,_,_,_,_,hx,hc,ha,_⟩:=h5;exact ⟨hc,ha,hx⟩
theorem y31 {p q : Prop} (k : q) (h : PLift q -> p := by
 intro kk
 have t1 := pY (bl e.key.name) (by rw [aB]; omega)
 have t2 := pY (bl e.key.domain) (by rw [aB]; omega)
 have t3 := pY (bl e.key.path) (by rw [aB]; omega)
 have t4 := pY (bl e.ck.value) (by rw [aB]; omega)
 revert t1 t2 t3 t4
 exact kk.down) : p := h ⟨k⟩
theorem F6 (S:Nat->Prop) (B:Nat) (l:Bytes) (e:Ev) (a:Option Addr) (cap:Nat) (w:World) (hl:l.length<=1048576) (hs:EvSmall e) (hsz:EvTiny e) (qm:DotsIn w a e.over) (hSA:∀ A off,a=some ⟨A,off,none⟩->e.over≠[]->¬ S A) (h:Wr w S B l) (hyes:dm e=true) :
 Calls prog 118 #[.pointer (some ⟨B,0,none⟩),kV e a cap] w (xU S w B (l++evB e)):=by
 have hE0:=fun (W:World) (ho:DotsIn W a e.over)=>fQ e a cap W hs ho;rw [hyes] at hE0;have hE:=aq hE0;have HT:=aq h.tight;have hfit:=aq (qy hyes);clear hE0 h hyes;go_enter func118,ntmps118;go_upto_region 1 with fail
 refine aI (fun W hW=>?_);have hbt:Below w.heap.size w W:=by rw [hW.out];go_grown
 have hz:W.heap.size=w.heap.size+1:=by rw [hW.out];simp
 have hR:W.rangeAt w.heap.size 0 (az e a cap):=by rw [hW.out];exact dU e a cap w _
 have hRc:W.rangeAt w.heap.size 10 (uC e.ck):=FK hR 10 _ (Tu e a cap);have ho:=qm.kept hbt;clear hW qm;go_upto_region 3 with (first
  | ((with_reducible refine bf _ w.heap.size e a cap hR ?_ rfl ?_);exact rfl)
  | ((with_reducible refine iC 80 _ w.heap.size 10 (uC e.ck) _ underlying80 rfl (by kernel_rfl) hRc ?_ rfl ?_);exact rfl)
  | (go_at_call 52;refine (hE.out _ ho).mono ?_;rintro x w1 ⟨rfl,hb⟩;replace hR:=ai hR hb;replace hRc:=ai hRc hb;replace ho:=ho.kept hb;replace hbt:=below2 hbt hb;have hz1:=hb.size))
 refine aI (fun W2 hW2=>?_);have hb2:Below w1.heap.size w1 W2:=by rw [hW2.out];go_grown
 have BZ:Below w.heap.size w W2:=below2 hbt hb2;have QR:W2.rangeAt w.heap.size 0 (az e a cap):=ai hR hb2;have Q0:W2.cell? ⟨w.heap.size,0,none⟩=some (.int .i64 e.dot.a.dev):=QR 0 _ rfl;have Q1:W2.cell? ⟨w.heap.size,1,none⟩=some (.int .i64 e.dot.a.inc):=QR 1 _ rfl;have Q2:W2.cell? ⟨w.heap.size,2,none⟩=some (.int .i64 e.dot.seq):=QR 2 _ rfl;have Q3:W2.cell? ⟨w.heap.size,3,none⟩=some (.int .i64 e.stamp.wall):=QR 3 _ rfl;have Q4:W2.cell? ⟨w.heap.size,4,none⟩=some (.int .i64 e.stamp.count):=QR 4 _ rfl;have Q5:W2.cell? ⟨w.heap.size,5,none⟩=some (.int .i64 e.stamp.dev):=QR 5 _ rfl;have Q6:W2.cell? ⟨w.heap.size,6,none⟩=some (.int .i64 e.kind):=QR 6 _ rfl;have Q7:W2.cell? ⟨w.heap.size,7,none⟩=some (.string e.key.name):=QR 7 _ rfl;have Q8:W2.cell? ⟨w.heap.size,8,none⟩=some (.string e.key.domain):=QR 8 _ rfl;have Q9:W2.cell? ⟨w.heap.size,9,none⟩=some (.string e.key.path):=QR 9 _ rfl;have Q10:W2.cell? ⟨w1.heap.size,0,none⟩=some (.string e.ck.value):=by rw [hW2.out];go_simp
 have Q11:W2.cell? ⟨w1.heap.size,1,none⟩=some (.bool e.ck.hostOnly):=by rw [hW2.out];go_simp
 have Q12:W2.cell? ⟨w1.heap.size,2,none⟩=some (.bool e.ck.secure):=by rw [hW2.out];go_simp
 have Q13:W2.cell? ⟨w1.heap.size,3,none⟩=some (.bool e.ck.httpOnly):=by rw [hW2.out];go_simp
 have Q14:W2.cell? ⟨w1.heap.size,4,none⟩=some (.bool e.ck.persistent):=by rw [hW2.out];go_simp
 have Q15:W2.cell? ⟨w1.heap.size,5,none⟩=some (.int .i64 e.ck.expiry):=by rw [hW2.out];go_simp
 have Q16:W2.cell? ⟨w1.heap.size,6,none⟩=some (.int .i64 e.ck.creation):=by rw [hW2.out];go_simp
 have Q17:W2.cell? ⟨w1.heap.size,7,none⟩=some (.int .i64 e.ck.access):=by rw [hW2.out];go_simp
 have Q18:W2.cell? ⟨w.heap.size,18,none⟩=some (.slice a e.over.length cap):=QR 18 _ rfl;have QO:=ho.kept hb2;have H:Hold (tight S w) W2 B W2 l:=Hold.start (HT.out.frame (Fr.of_below (S:=fun _=>False) BZ) (fun _ _ g=>g));have hns:¬ tight S w w.heap.size:=fun g=>Nat.lt_irrefl _ g.2;have dR:¬ tight S w w1.heap.size:=fun g=>by have:=g.2;omega
 have d1:=oJ e.dot;have d2:=qI e.stamp;have d3:=aQ e.over.length (by have:=hs.over;omega);have hov:=hfit.out.over;clear hW2 hR hRc hb hE;have q0:=Q0;have q1:=Q1;have q2:=Q2;have q3:=Q3;have q4:=Q4;have q5:=Q5;have q6:=Q6;have q7:=Q7;have q8:=Q8;have q9:=Q9;have q10:=Q10;have q11:=Q11;have q12:=Q12;have q13:=Q13;have q14:=Q14;have q15:=Q15;have q16:=Q16;have q17:=Q17;have q18:=Q18;go_wp2_with (first
  | (go_at_call 119;(with_reducible refine (xI H e.dot (by (try simp only [av,List.length_singleton]);omega)).mono ?_);rintro x wa ⟨rfl,H⟩;have q0:=H.kept Q0 hns;have q1:=H.kept Q1 hns;have q2:=H.kept Q2 hns;have q3:=H.kept Q3 hns;have q4:=H.kept Q4 hns;have q5:=H.kept Q5 hns;have q6:=H.kept Q6 hns;have q7:=H.kept Q7 hns;have q8:=H.kept Q8 hns;have q9:=H.kept Q9 hns;have q10:=H.kept Q10 dR;have q11:=H.kept Q11 dR;have q12:=H.kept Q12 dR;have q13:=H.kept Q13 dR;have q14:=H.kept Q14 dR;have q15:=H.kept Q15 dR;have q16:=H.kept Q16 dR;have q17:=H.kept Q17 dR;have q18:=H.kept Q18 hns)
  | (go_at_call 65;(with_reducible refine (CW H e.stamp (by (try simp only [av,List.length_singleton]);omega)).mono ?_);rintro x wa ⟨rfl,H⟩;have q0:=H.kept Q0 hns;have q1:=H.kept Q1 hns;have q2:=H.kept Q2 hns;have q3:=H.kept Q3 hns;have q4:=H.kept Q4 hns;have q5:=H.kept Q5 hns;have q6:=H.kept Q6 hns;have q7:=H.kept Q7 hns;have q8:=H.kept Q8 hns;have q9:=H.kept Q9 hns;have q10:=H.kept Q10 dR;have q11:=H.kept Q11 dR;have q12:=H.kept Q12 dR;have q13:=H.kept Q13 dR;have q14:=H.kept Q14 dR;have q15:=H.kept Q15 dR;have q16:=H.kept Q16 dR;have q17:=H.kept Q17 dR;have q18:=H.kept Q18 hns)
  | (go_at_call 162;(with_reducible refine (RI H _ _ _ _ _ (by (try simp only [av,List.length_singleton]);omega)).mono ?_);rintro x wa ⟨rfl,H⟩;have q0:=H.kept Q0 hns;have q1:=H.kept Q1 hns;have q2:=H.kept Q2 hns;have q3:=H.kept Q3 hns;have q4:=H.kept Q4 hns;have q5:=H.kept Q5 hns;have q6:=H.kept Q6 hns;have q7:=H.kept Q7 hns;have q8:=H.kept Q8 hns;have q9:=H.kept Q9 hns;have q10:=H.kept Q10 dR;have q11:=H.kept Q11 dR;have q12:=H.kept Q12 dR;have q13:=H.kept Q13 dR;have q14:=H.kept Q14 dR;have q15:=H.kept Q15 dR;have q16:=H.kept Q16 dR;have q17:=H.kept Q17 dR;have q18:=H.kept Q18 hns)
  | (go_at_call 64;(with_reducible refine (zD H e.over.length (by (try simp only [av,List.length_singleton]);omega) (by omega)).mono ?_);rintro x wa ⟨rfl,H⟩;have q0:=H.kept Q0 hns;have q1:=H.kept Q1 hns;have q2:=H.kept Q2 hns;have q3:=H.kept Q3 hns;have q4:=H.kept Q4 hns;have q5:=H.kept Q5 hns;have q6:=H.kept Q6 hns;have q7:=H.kept Q7 hns;have q8:=H.kept Q8 hns;have q9:=H.kept Q9 hns;have q10:=H.kept Q10 dR;have q11:=H.kept Q11 dR;have q12:=H.kept Q12 dR;have q13:=H.kept Q13 dR;have q14:=H.kept Q14 dR;have q15:=H.kept Q15 dR;have q16:=H.kept Q16 dR;have q17:=H.kept Q17 dR;have q18:=H.kept Q18 hns))
 obtain ⟨LL,hLL⟩:∃ LL,LL=l++jy e.dot++dE e.stamp++[UInt8.ofNat (dQ [e.kind == 1,e.ck.hostOnly,e.ck.secure,e.ck.httpOnly,e.ck.persistent])]++aj e.over.length:=⟨_,rfl⟩;have hLn:LL.length<=1048700:=by rw [hLL];simp only [av,List.length_singleton];omega
 rw [<- hLL] at H;have HLL:=aq hLL;clear hLL;clear q0;clear q1;clear q2;clear q3;clear q4;clear q5;clear q6;clear q7;clear q8;clear q9;clear q10;clear q11;clear q12;clear q13;clear q14;clear q15;clear q16;clear q17;clear q18;go_loopw [43] (fun i wr=>∃ k:Nat,k<=e.over.length/\i=.int .i64 k/\Hold (tight S w) W2 B wr (LL++bV (e.over.take k))) (fun i _=>e.over.length - (intOf i).toNat)
 case atStart=>exact ⟨0,Nat.zero_le _,rfl,by simpa [bV] using H⟩
 case round =>
  obtain ⟨k,hk,rfl,H⟩:=hrel;by_cases hlt:k<e.over.length
  ·have hdl:=fJ (e.over.take k)
   rw [List.length_take,Nat.min_eq_left hk] at hdl;have hsn:=lH (e.over.take k) e.over[k];rw [<- List.take_succ_eq_append_getElem hlt] at hsn;have HS:=aq hsn;clear hsn;rcases QO with hnil | ⟨A,off,rfl,hd⟩
   ·rw [hnil] at hlt;cases hlt
   ·have hnA:¬ tight S w A:=fun g=>hSA A off rfl (fun h0=>by rw [h0] at hlt;simp at hlt) g.1
    have x0:=H.kept (hd.dev k hlt) hnA;have x1:=H.kept (hd.inc k hlt) hnA;have x2:=H.kept (hd.seq k hlt) hnA;generalize e.over[k]=d at x0 x1 x2 HS;have hb0:Below wr.heap.size wr (wr.alloc (Obj.cells #[.int .i64 d.a.dev,.int .i64 d.a.inc,.int .i64 d.seq] 76)):=(bh _ _).alloc (ar _) _;have hbx:∀ W',Below wr.heap.size wr W'->Hold (tight S w) W2 B W' (LL++bV (e.over.take k)):=fun _ hb=>H.below hb;go_upto_region 10 with fail
    refine aI (fun W3 hW3=>?_);have hb3:Below wr.heap.size wr W3:=by rw [hW3.out];go_grown
    have y0:W3.cell? ⟨wr.heap.size,0,none⟩=some (.int .i64 d.a.dev):=by rw [hW3.out];go_simp
    have y1:W3.cell? ⟨wr.heap.size,1,none⟩=some (.int .i64 d.a.inc):=by rw [hW3.out];go_simp
    have y2:W3.cell? ⟨wr.heap.size,2,none⟩=some (.int .i64 d.seq):=by rw [hW3.out];go_simp
    replace H:=H.below hb3;clear hW3 x0 x1 x2 hbx hb0;go_wp2_with (go_at_call 119;(with_reducible refine (xI H d (by (try simp only [av,List.length_singleton]);omega)).mono ?_);rintro x wa ⟨rfl,H⟩)
    go_roundw
    case rel=>exact ⟨k+1,by omega,by go_num,by rw [HS.out,<- List.append_assoc];exact H⟩
    case measure => exact z67
  ·have htk:e.over.take k=e.over:=List.take_of_length_le (by omega)
   rw [htk] at H;clear htk;have hdl:=fJ e.over;have q0:=H.kept Q0 hns;have q1:=H.kept Q1 hns;have q2:=H.kept Q2 hns;have q3:=H.kept Q3 hns;have q4:=H.kept Q4 hns;have q5:=H.kept Q5 hns;have q6:=H.kept Q6 hns;have q7:=H.kept Q7 hns;have q8:=H.kept Q8 hns;have q9:=H.kept Q9 hns;have q10:=H.kept Q10 dR;have q11:=H.kept Q11 dR;have q12:=H.kept Q12 dR;have q13:=H.kept Q13 dR;have q14:=H.kept Q14 dR;have q15:=H.kept Q15 dR;have q16:=H.kept Q16 dR;have q17:=H.kept Q17 dR;have q18:=H.kept Q18 hns;have hk0:=hfit.out.kind;by_cases hk1:e.kind=1
   ·have e1:(e.kind == 1)=true:=beq_iff_eq.2 hk1
    have HE:Hid (l++evB e=LL++bV e.over++bW (bl e.key.name)++bW (bl e.key.domain)++bW (bl e.key.path)++bW (bl e.ck.value)++rV e.ck.expiry++aj e.ck.creation.toNat++aj e.ck.access.toNat):=by
     rw [Hid,HLL.out];unfold evB yI lG;rw [if_pos hk1];simp
    obtain ⟨⟨f1,f2⟩,⟨f3,f4⟩,f5,f6⟩:=hfit.out.item hk1;obtain ⟨y,hy⟩:∃ y:Nat,e.ck.creation=y:=⟨e.ck.creation.toNat,by omega⟩;obtain ⟨z,hz'⟩:∃ z:Nat,e.ck.access=z:=⟨e.ck.access.toNat,by omega⟩;rw [hy,hz'] at HE;rw [hy] at f1 f2 Q16 q16;rw [hz'] at f3 f4 Q17 q17;simp only [Int.toNat_natCast] at HE;have hwy:IntKind.u64.wrap (y:Int)=(y:Int):=IntWalk.u64_in _ (by omega);have hwz:IntKind.u64.wrap (z:Int)=(z:Int):=IntWalk.u64_in _ (by omega);clear hk1 hk0 hy hz';obtain ⟨L0,hL0⟩:∃ L0,L0=LL++bV e.over:=⟨_,rfl⟩;have Yg:L0.length<=1060000:=by rw [hL0,av];omega
    rw [<- hL0] at H HE;clear hL0;obtain ⟨s1,s2,s3,s4⟩:=hsz
    refine y31 ?_
    intro t1 t2 t3 t4
    simp only [aB] at t1 t2 t3 t4;have t5:=Ac e.ck.expiry (by omega) (by omega);have t6:=aQ y (by omega);have HD:=H.drew;have H1:=aq (Df HD e.key.name (by omega) (by omega));have H2:=aq (fun (W:World) (h:Hold (tight S w) W2 B W (L0++bW (bl e.key.name)))=>Df h e.key.domain (by simp only [av];omega) (by omega));have H3:=aq (fun (W:World) (h:Hold (tight S w) W2 B W (L0++bW (bl e.key.name)++bW (bl e.key.domain)))=>Df h e.key.path (by simp only [av];omega) (by omega));have H4:=aq (fun (W:World) (h:Hold (tight S w) W2 B W (L0++bW (bl e.key.name)++bW (bl e.key.domain)++bW (bl e.key.path)))=>Df h e.ck.value (by simp only [av];omega) (by omega));go_wp2;have r7:=HD.kept Q7 hns;have r8:=HD.kept Q8 hns;have r9:=HD.kept Q9 hns;have r10:=HD.kept Q10 dR;clear q0 q1 q2 q3 q4 q5 q6 q7 q8 q9 q10 q11 q12 q13 q14 q15 q16 q17 q18;go_region_held3 (fun w'=>w'.cell? ⟨w.heap.size,7,none⟩=some (.string e.key.name)/\w'.cell? ⟨w.heap.size,8,none⟩=some (.string e.key.domain)/\w'.cell? ⟨w.heap.size,9,none⟩=some (.string e.key.path)/\w'.cell? ⟨w1.heap.size,0,none⟩=some (.string e.ck.value)) (first | exact ⟨k7,k8,k9,k10⟩ | go_keep)
     (first
      | (go_at_call 66;(with_reducible refine H1.out.mono ?_);rintro x wa ⟨rfl,Ha⟩;have k7:=Ha.kept Q7 hns;have k8:=Ha.kept Q8 hns;have k9:=Ha.kept Q9 hns;have k10:=Ha.kept Q10 dR)
      | (go_at_call 66;(with_reducible refine (H2.out _ Ha).mono ?_);rintro x wb ⟨rfl,Hb⟩;have k7:=Hb.kept Q7 hns;have k8:=Hb.kept Q8 hns;have k9:=Hb.kept Q9 hns;have k10:=Hb.kept Q10 dR)
      | (go_at_call 66;(with_reducible refine (H3.out _ Hb).mono ?_);rintro x wc ⟨rfl,Hc⟩;have k7:=Hc.kept Q7 hns;have k8:=Hc.kept Q8 hns;have k9:=Hc.kept Q9 hns;have k10:=Hc.kept Q10 dR)
      | (go_at_call 66;(with_reducible refine (H4.out _ Hc).mono ?_);rintro x wd ⟨rfl,Hd⟩;have k7:=Hd.kept Q7 hns;have k8:=Hd.kept Q8 hns;have k9:=Hd.kept Q9 hns;have k10:=Hd.kept Q10 dR))
    obtain ⟨M,hM⟩:∃ M,M=L0++bW (bl e.key.name)++bW (bl e.key.domain)++bW (bl e.key.path)++bW (bl e.ck.value):=⟨_,rfl⟩;have hMn:M.length<=100000000:=by rw [hM];simp only [av];omega
    rw [<- hM] at Hd HE;clear hM;have HD2:=Hd.drew;have I1:=aq (WM HD2 e.ck.expiry (by omega) (by omega) (by omega));have I2:=aq (fun (W:World) (h:Hold (tight S w) W2 B W (M++rV e.ck.expiry))=>zD h y (by simp only [av];omega) (by omega));have I3:=aq (fun (W:World) (h:Hold (tight S w) W2 B W (M++rV e.ck.expiry++aj y))=>zD h z (by simp only [av];omega) (by omega));go_wp2;have r15:=HD2.kept Q15 dR;have r16:=HD2.kept Q16 dR;have r17:=HD2.kept Q17 dR;go_region_held3 (fun w'=>w'.cell? ⟨w1.heap.size,5,none⟩=some (.int .i64 e.ck.expiry)/\w'.cell? ⟨w1.heap.size,6,none⟩=some (.int .i64 y)/\w'.cell? ⟨w1.heap.size,7,none⟩=some (.int .i64 z)) (first | exact ⟨k15,k16,k17⟩ | go_keep)
     (first
      | (go_at_call 163;(with_reducible refine I1.out.mono ?_);rintro x we ⟨rfl,He⟩;have k15:=He.kept Q15 dR;have k16:=He.kept Q16 dR;have k17:=He.kept Q17 dR)
      | (go_at_call 64;(with_reducible refine (I2.out _ He).mono ?_);rintro x wf ⟨rfl,Hf⟩;have k15:=Hf.kept Q15 dR;have k16:=Hf.kept Q16 dR;have k17:=Hf.kept Q17 dR)
      | (go_at_call 64;(with_reducible refine (I3.out _ Hf).mono ?_);rintro x wg ⟨rfl,Hg⟩;have k15:=Hg.kept Q15 dR;have k16:=Hg.kept Q16 dR;have k17:=Hg.kept Q17 dR))
    go_wp2;go_end0;exact ⟨rfl,by rw [HE.out];exact Hg.rebase BZ⟩
   ·have e1:(e.kind == 1)=false:=beq_eq_false_iff_ne.2 hk1
    have HE:Hid (l++evB e=LL++bV e.over):=by
     rw [Hid,HLL.out];unfold evB yI lG;rw [if_neg hk1];simp
    clear hk1 hk0;go_wp2;go_end0;exact ⟨rfl,by rw [HE.out];exact H.rebase BZ⟩
theorem DotsIn.keep {w w':World} {a:Option Addr} {l:List Dot} (h:DotsIn w a l) (hk:∀ A off,a=some ⟨A,off,none⟩->l≠[]->w'.heap[A]?=w.heap[A]?):DotsIn w' a l:=by
 rcases h with h | ⟨A,off,ha,hd⟩
 ·exact bb h
 ·by_cases h0:l=[]
  ·exact bb h0
  ·have hc:∀ o,w'.cell? ⟨A,o,none⟩=w.cell? ⟨A,o,none⟩:=fun o=>World.cell?_of_block (hk A off ha h0)
   exact bd ⟨A,off,ha,⟨fun i hi=>(hc _).trans (hd.dev i hi),fun i hi=>(hc _).trans (hd.inc i hi),fun i hi=>(hc _).trans (hd.seq i hi)⟩⟩
structure EvShort (e:Ev):Prop where
 name:e.key.name.size<=256
 domain:e.key.domain.size<=256
 path:e.key.path.size<=256
 value:e.ck.value.size<=1024
theorem qX {e:Ev} (h:dm e=true):EvShort e:=by
 have hfit:=qy h;unfold dm at h;simp only [Bool.and_eq_true,decide_eq_true_eq] at h;obtain ⟨_,_,_,_,h5⟩:=h;unfold kindOk at h5;rcases hfit.kind with hk | hk
 ·rw [if_neg (by omega),if_pos hk] at h5
  unfold gq kL fE gm at h5;simp only [Bool.and_eq_true,decide_eq_true_eq] at h5;obtain ⟨_,⟨hn,_⟩,⟨hv,_⟩,⟨hd,_⟩,⟨_,_,hp⟩,_⟩:=h5;exact ⟨hn,hd,hp,hv⟩
 ·rw [if_pos hk] at h5
  simp only [Bool.and_eq_true,decide_eq_true_eq] at h5;obtain ⟨⟨h1,h2⟩,_⟩:=h5;exact ⟨by rw [h1];exact Nat.zero_le _,by rw [h1];exact Nat.zero_le _,by rw [h1];exact Nat.zero_le _,by rw [h2];exact Nat.zero_le _⟩
theorem EvShort.tiny {e:Ev} (h:EvShort e):EvTiny e:=⟨by have:=h.name;omega,by have:=h.domain;omega,by have:=h.path;omega,by have:=h.value;omega⟩
theorem vM {e:Ev} (h:dm e=true):EvSmall e:=by
 have s:=qX h;have f:=qy h;exact ⟨by have:=s.name;omega,by have:=s.domain;omega,by have:=s.path;omega,by have:=s.value;omega,by have:=f.over;omega⟩
def ik (l:List Dot):Bytes:=aj l.length++bV l
theorem uT:∀ (l:List Dot) (p:Option Dot),eF p l=0->∀ x∈l,bn x=true
 | [],_,_=>fun x hx=>by simp at hx
 | y :: r,p,h=>by
   unfold eF at h;split at h
   ·rename_i h1
    split at h
    ·intro x hx
     rcases List.mem_cons.1 hx with rfl | hx
     ·exact h1
     ·exact uT r _ h x hx
    ·omega
   ·omega
theorem mV {l:List Dot} (h:aZ l=0):l.length<=4096/\∀ x∈l,bn x=true:=by
 unfold aZ at h;split at h
 ·omega
 ·exact ⟨by omega,uT l none h⟩
theorem kept2 {w0 w:World} (hb:Below w0.heap.size w0 w) {p:Addr} {v:Value} (h:w0.cell? p=some v):w.cell? p=some v:=kept hb h
/-- what a list lies on was there in w0, and is none of S -/
def xR (w0:World) (S:Nat->Prop) (a:Option Addr) (ne:Prop):Prop:=∀ A off,a=some ⟨A,off,none⟩->ne->A<w0.heap.size/\¬ S A
theorem Hold.dots {S:Nat->Prop} {w0 w:World} {B:Nat} {l:Bytes} (h:Hold S w0 B w l) {a:Option Addr} {mk:List Dot} (hd:DotsIn w0 a mk) (ho:xR w0 S a (mk≠[])):DotsIn w a mk :=
 hd.keep (fun A off ha hne=>h.fr.block A (ho A off ha hne).1 (ho A off ha hne).2)
theorem Hold.alloc {S:Nat->Prop} {w0 w:World} {B:Nat} {l:Bytes} (h:Hold S w0 B w l) (o:Obj):Hold S w0 B (w.alloc o) l:=h.below ((bh _ _).alloc (ar _) o)
theorem Pv {S:Nat->Prop} {w0 w:World} {B:Nat} {l:Bytes} (h:Hold S w0 B w l) (a:Option Addr) (cap:Nat) (mk:List Dot) (hl:l.length<=1048576) (hm:aZ mk=0) (hd:DotsIn w0 a mk) (ho:xR w0 S a (mk≠[])) :
 Calls prog 161 #[.pointer (some ⟨B,0,none⟩),.slice a mk.length cap] w fun e w'=>e=.returned (.int .i64 0)/\Hold S w0 B w' (l++ik mk):=by
 obtain ⟨hml,_⟩:=mV hm;have HC0:=fun (W:World) (h:DotsIn W a mk)=>mP a cap mk W (by omega) h;rw [hm] at HC0;have HC:=aq HC0;have hsl:=aQ mk.length (by omega);have HN:=aq (fun (W:World) (h:Hold S w0 B W l)=>zD h mk.length (by omega) (by omega));have HP:=aq (fun (W:World) (d:Dot) (L:Bytes) (hL:L.length<=268435456) (h:Hold S w0 B W L)=>xI h d hL);have HE:Hid (l++ik mk=l++aj mk.length++bV mk):=by unfold Hid ik;simp
 obtain ⟨M,hM⟩:∃ M,M=l++aj mk.length:=⟨_,rfl⟩;have hMl:M.length<=1048600:=by rw [hM,av];omega
 rw [<- hM] at HN HE;clear hM HC0 hm hsl;go_enter func161,ntmps161;go_upto_region 5 with (first
  | (go_at_call 175;(with_reducible refine (HC.out _ (h.dots hd ho)).mono ?_);rintro x w1 ⟨rfl,hb⟩;replace h:=h.below hb;clear hb)
  | (go_at_call 64;(with_reducible refine (HN.out _ h).mono ?_);rintro x w2 ⟨rfl,H2⟩))
 clear h;go_wp2;go_loopw [20] (fun i wr=>∃ k:Nat,k<=mk.length/\i=.int .i64 k/\Hold S w0 B wr (M++bV (mk.take k))) (fun i _=>mk.length - (intOf i).toNat)
 case atStart=>exact ⟨0,Nat.zero_le _,rfl,by simpa [bV] using H2⟩
 case round =>
  obtain ⟨k,hk,rfl,H⟩:=hrel;by_cases hlt:k<mk.length
  ·have hdw:=H.dots hd ho
   have hln:(M++bV (mk.take k)).length<=268435456:=by
        have:=fJ (mk.take k);rw [av];simp at this;omega
   have hsn:mk.take (k+1)=mk.take k++[mk[k]]:=List.take_succ_eq_append_getElem hlt;rcases hdw with h0 | ⟨A,off,rfl,hda⟩
   ·rw [h0] at hlt;simp at hlt
   have e0:=hda.dev k hlt;have e1:=hda.inc k hlt;have e2:=hda.seq k hlt;have HS:Hid (M++bV (mk.take (k+1))=M++bV (mk.take k)++jy mk[k]):=by rw [Hid,hsn,lH,List.append_assoc]
   clear hsn;generalize mk[k]=x at e0 e1 e2 HS;obtain ⟨L,hL⟩:∃ L,L=M++bV (mk.take k):=⟨_,rfl⟩;rw [<- hL] at H hln HS;clear hL H2;go_upto_region 8 with fail
   refine aI (fun W1 hW1=>?_);have H1:Hold S w0 B W1 L:=by rw [hW1.out];exact H.below (by go_grown)
   refine y19 ?_
   intro x0 x1 x2
   clear hW1 H e0 e1 e2
   go_wp2_with (go_at_call 119;(with_reducible refine (HP.out _ _ _ hln H1).mono ?_);rintro v w3 ⟨rfl,H3⟩)
   go_roundw
   case rel=>exact ⟨k+1,by omega,by go_num,by rw [HS.out];exact H3⟩
   case measure => exact z67
  ·have hke:k=mk.length:=by omega
   subst hke;rw [List.take_length] at H;go_wp2;go_ret;exact ⟨rfl,by rw [HE.out];exact H⟩
def iR (l:List Ev):Bytes:=l.flatMap evB
theorem EO (l:List Ev) (e:Ev):iR (l++[e])=iR l++evB e:=by simp [iR]
theorem KX {S:Nat->Prop} {w0 w:World} {B:Nat} {l:Bytes} (h:Hold S w0 B w l) (e:Ev) (a:Option Addr) (cap:Nat) (hl:l.length<=1048576) (hok:dm e=true) (hd:DotsIn w0 a e.over) (ho:xR w0 S a (e.over≠[])) :
 Calls prog 118 #[.pointer (some ⟨B,0,none⟩),kV e a cap] w (xU S w0 B (l++evB e)):=by
 refine (F6 (Proofs.YthphepeniaemoaaGreat.tight (grow S w0) w) B l e a cap w hl (vM hok) (qX hok).tiny (h.dots hd ho) ?_ h.wr.tight hok).mono fun x w' k=>⟨k.1,h.after k.2.wr k.2.fr⟩;intro A off ha hne g;obtain ⟨h1,h2⟩:=ho A off ha hne;rcases g.1 with g | g
 ·exact h2 g
 ·omega
end Go.Proofs.YthphepeniaemoaaGreat
