/- An event packed. Conditions: texts of at most 2^28 bytes. -/
import Derived.Test.YtepkclldbkhanaaGreatAt
import Derived.Test.YtepkclldbkhanaaGreatLoad
set_option linter.unusedSimpArgs false
set_option linter.unusedVariables false
set_option linter.unnecessarySimpa false
set_option maxHeartbeats 16000000
set_option maxRecDepth 100000
open Go.Proofs.Tryz
namespace Go.Proofs.YtepkclldbkhanaaGreat
open Go.RowKit
def eG (l:List Dot):Bytes:=(l.map qc).flatten
def BO (e:Ev):Bytes:=qc e.dot++iP e.stamp++[UInt8.ofNat (fD [e.kind == 1,e.ck.hostOnly,e.ck.secure,e.ck.httpOnly,e.ck.persistent])]++aS e.over.length++eG e.over
def xN (e:Ev):Bytes:=if e.kind=1 then gG (bl e.key.name)++gG (bl e.key.domain)++gG (bl e.key.path)++gG (bl e.ck.value)++yP e.ck.expiry++aS e.ck.creation.toNat++aS e.ck.access.toNat else []
def evB (e:Ev):Bytes:=BO e++xN e
theorem QS {S:Nat→Prop} {w0 w:World} {B:Nat} {l:Bytes} (h:Hold S w0 B w l) (b0 b1 b2 b3 b4:Bool) (hl:l.length≤268435456) :
 Calls prog 116 #[.pointer (some ⟨B,0,none⟩),.slice (some ⟨w.heap.size,0,none⟩) 5 5] (w.alloc (Obj.cells #[.bool b0,.bool b1,.bool b2,.bool b3,.bool b4] 4)) (qQ S w0 B (l++[UInt8.ofNat (fD [b0,b1,b2,b3,b4])])):=by
 refine SS (h.below ((Below.refl _ _).alloc (Nat.le_refl _) _)) w.heap.size [b0,b1,b2,b3,b4] hl (by simp) ?_;intro j hj;rw [World.cell?_alloc_new];rcases j with _ | _ | _ | _ | _ | j;all_goals first
  | rfl
  | (simp only [List.length_cons,List.length_nil] at hj;omega)
theorem Iu (d:Dot):(qc d).length≤30:=by
 unfold qc;split
 ·rename_i h
  unfold bJ jk at h;simp at h;have l1:=bF d.a.dev.toNat (by omega);have l2:=bF d.a.inc.toNat (by omega);have l3:=bF d.seq.toNat (by omega);simp;omega
 ·simp
theorem lF:∀ l:List Dot,(eG l).length≤30 * l.length
 | []=>by simp [eG]
 | d :: r=>by
   have h1:=Iu d;have h2:=lF r;unfold eG at h2 ⊢;simp only [List.map_cons,List.flatten_cons,List.length_append,List.length_cons];omega
theorem uM (l:List Dot) (d:Dot):eG (l++[d])=eG l++qc d:=by simp [eG]
theorem Jr (d:Stamp):(iP d).length≤30:=by
 unfold iP;split
 ·rename_i h
  unfold fQ at h;simp at h;have l1:=bF d.wall.toNat (by omega);have l2:=bF d.count.toNat (by omega);have l3:=bF d.dev.toNat (by omega);simp;omega
 ·simp
theorem Hold.rebase {S:Nat→Prop} {w W w':World} {B:Nat} {l:Bytes} (h:Hold (tight S w) W B w' l) (hb:Below w.heap.size w W):Hold S w B w' l:=by
 refine ⟨h.wr.mono fun k g=>?_,((Fr.of_below (S:=S) hb)).trans (h.fr.mono fun k _ g=>Or.inl g.1)⟩;rcases g with g | g
 ·exact Or.inl g.1
 ·exact Or.inr (Nat.le_trans hb.size g)
theorem ET {w:World} {b:Nat} {cs:List Value} (h:w.rangeAt b 0 cs) (o:Nat) (ds:List Value) (hd:∀ j v,ds[j]?=some v→cs[o+j]?=some v):w.rangeAt b o ds:=fun j v hv=>by
 have:=h (o+j) v (hd j v hv);rwa [Nat.zero_add] at this
theorem Sm (e:Ev) (a:Option Addr) (cap:Nat):∀ j v,(zu e.ck)[j]?=some v→(ag e a cap)[10+j]?=some v:=by
 intro j v hv;rcases j with _ | _ | _ | _ | _ | _ | _ | _ | j;all_goals first
  | (simp at hv;done)
  | (simpa [ag] using hv)
structure EvTiny (e:Ev):Prop where
 name:e.key.name.size≤16777216
 domain:e.key.domain.size≤16777216
 path:e.key.path.size≤16777216
 value:e.ck.value.size≤16777216
theorem rW (l:Bytes) (h:l.length<18446744073709551616):(gG l).length≤l.length+10:=by
 unfold gG;have:=bF l.length h;simp only [List.length_append];omega
theorem O6 (n:Int) (h0 : -4398046511104≤n) (h1:n≤4398046511104):(yP n).length≤10:=bF _ (by have:=O5 n h0 h1;omega)
structure EvFit (e:Ev):Prop where
 over:e.over.length≤64
 kind:e.kind=1∨e.kind=2
 item:e.kind=1→(0≤e.ck.creation∧e.ck.creation≤1099511627776)∧(0≤e.ck.access∧e.ck.access≤1099511627776)∧(-1099511627776≤e.ck.expiry∧e.ck.expiry≤1099511627776)
theorem BN {e:Ev} (h:eF e=true):EvFit e:=by
 unfold eF kindOk at h;simp only [Bool.and_eq_true,decide_eq_true_eq] at h;obtain ⟨_,_,_,h4,h5⟩:=h;refine ⟨?_,?_,fun h1=>?_⟩
 ·unfold overOk at h4;simp at h4;exact h4.1
 ·by_cases h2:e.kind=2
  ·exact Or.inr h2
  ·rw [if_neg h2] at h5
   by_cases h1:e.kind=1
   ·exact Or.inl h1
   ·rw [if_neg h1] at h5;cases h5
 ·rw [if_neg (by omega),if_pos h1] at h5
  unfold gQ oI at h5;simp only [Bool.and_eq_true,decide_eq_true_eq] at h5;obtain ⟨_,_,_,_,_,hx,hc,ha,_⟩:=h5;exact ⟨hc,ha,hx⟩
theorem FK (S:Nat→Prop) (B:Nat) (l:Bytes) (e:Ev) (a:Option Addr) (cap:Nat) (w:World) (hl:l.length≤1048576) (hs:EvSmall e) (hsz:EvTiny e) (hover:DotsIn w a e.over) (hSA:∀ A off,a=some ⟨A,off,none⟩→e.over≠[]→¬ S A) (h:Wr w S B l) (hyes:eF e=true) :
 Calls prog 67 #[.pointer (some ⟨B,0,none⟩),jY e a cap] w (wV S w B (l++evB e)):=by
 have hE0:=fun (W:World) (ho:DotsIn W a e.over)=>gV e a cap W hs ho;rw [hyes] at hE0;have hE:=Lib.hid hE0;have HT:=Lib.hid h.tight;have hfit:=Lib.hid (BN hyes);clear hE0 h hyes;go_enter func67,ntmps67;go_upto_region 1 with fail
 refine au (fun W hW=>?_);have hbt:Below w.heap.size w W:=by rw [hW.out];go_grown
 have hz:W.heap.size=w.heap.size+1:=by rw [hW.out];simp
 have hR:W.rangeAt w.heap.size 0 (ag e a cap):=by rw [hW.out];exact eP e a cap w _
 have hRc:W.rangeAt w.heap.size 10 (zu e.ck):=ET hR 10 _ (Sm e a cap);have ho:=hover.kept hbt;clear hW hover;go_upto_region 3 with (first
  | ((with_reducible refine bu _ w.heap.size e a cap hR ?_ rfl ?_);exact rfl)
  | ((with_reducible refine iM 125 _ w.heap.size 10 (zu e.ck) _ underlying125 rfl (by kernel_rfl) hRc ?_ rfl ?_);exact rfl)
  | (go_at_call 96;refine (hE.out _ ho).mono ?_;rintro x w1 ⟨rfl,hb⟩;replace hR:=aj hR hb;replace hRc:=aj hRc hb;replace ho:=ho.kept hb;replace hbt:=below2 hbt hb;have hz1:=hb.size))
 refine au (fun W2 hW2=>?_);have hb2:Below w1.heap.size w1 W2:=by rw [hW2.out];go_grown
 have o7:Below w.heap.size w W2:=below2 hbt hb2;have QR:W2.rangeAt w.heap.size 0 (ag e a cap):=aj hR hb2;have Q0:W2.cell? ⟨w.heap.size,0,none⟩=some (.int .i64 e.dot.a.dev):=QR 0 _ rfl;have Q1:W2.cell? ⟨w.heap.size,1,none⟩=some (.int .i64 e.dot.a.inc):=QR 1 _ rfl;have Q2:W2.cell? ⟨w.heap.size,2,none⟩=some (.int .i64 e.dot.seq):=QR 2 _ rfl;have Q3:W2.cell? ⟨w.heap.size,3,none⟩=some (.int .i64 e.stamp.wall):=QR 3 _ rfl;have Q4:W2.cell? ⟨w.heap.size,4,none⟩=some (.int .i64 e.stamp.count):=QR 4 _ rfl;have Q5:W2.cell? ⟨w.heap.size,5,none⟩=some (.int .i64 e.stamp.dev):=QR 5 _ rfl;have Q6:W2.cell? ⟨w.heap.size,6,none⟩=some (.int .i64 e.kind):=QR 6 _ rfl;have Q7:W2.cell? ⟨w.heap.size,7,none⟩=some (.string e.key.name):=QR 7 _ rfl;have Q8:W2.cell? ⟨w.heap.size,8,none⟩=some (.string e.key.domain):=QR 8 _ rfl;have Q9:W2.cell? ⟨w.heap.size,9,none⟩=some (.string e.key.path):=QR 9 _ rfl;have Q10:W2.cell? ⟨w1.heap.size,0,none⟩=some (.string e.ck.value):=by rw [hW2.out];go_simp
 have Q11:W2.cell? ⟨w1.heap.size,1,none⟩=some (.bool e.ck.hostOnly):=by rw [hW2.out];go_simp
 have Q12:W2.cell? ⟨w1.heap.size,2,none⟩=some (.bool e.ck.secure):=by rw [hW2.out];go_simp
 have Q13:W2.cell? ⟨w1.heap.size,3,none⟩=some (.bool e.ck.httpOnly):=by rw [hW2.out];go_simp
 have Q14:W2.cell? ⟨w1.heap.size,4,none⟩=some (.bool e.ck.persistent):=by rw [hW2.out];go_simp
 have Q15:W2.cell? ⟨w1.heap.size,5,none⟩=some (.int .i64 e.ck.expiry):=by rw [hW2.out];go_simp
 have Q16:W2.cell? ⟨w1.heap.size,6,none⟩=some (.int .i64 e.ck.creation):=by rw [hW2.out];go_simp
 have Q17:W2.cell? ⟨w1.heap.size,7,none⟩=some (.int .i64 e.ck.access):=by rw [hW2.out];go_simp
 have Q18:W2.cell? ⟨w.heap.size,18,none⟩=some (.slice a e.over.length cap):=QR 18 _ rfl;have QO:=ho.kept hb2;have H:Hold (tight S w) W2 B W2 l:=Hold.start (HT.out.frame (Fr.of_below (S:=fun _=>False) o7) (fun _ _ g=>g));have hns:¬ tight S w w.heap.size:=fun g=>Nat.lt_irrefl _ g.2;have dH:¬ tight S w w1.heap.size:=fun g=>by have:=g.2;omega
 have d1:=Iu e.dot;have d2:=Jr e.stamp;have d3:=bF e.over.length (by have:=hs.over;omega);have hov:=hfit.out.over;clear hW2 hR hRc hb hE;have q0:=Q0;have q1:=Q1;have q2:=Q2;have q3:=Q3;have q4:=Q4;have q5:=Q5;have q6:=Q6;have q7:=Q7;have q8:=Q8;have q9:=Q9;have q10:=Q10;have q11:=Q11;have q12:=Q12;have q13:=Q13;have q14:=Q14;have q15:=Q15;have q16:=Q16;have q17:=Q17;have q18:=Q18;go_wp2_with (first
  | (go_at_call 69;(with_reducible refine (wJ H e.dot (by (try simp only [List.length_append,List.length_singleton]);omega)).mono ?_);rintro x wa ⟨rfl,H⟩;have q0:=H.kept Q0 hns;have q1:=H.kept Q1 hns;have q2:=H.kept Q2 hns;have q3:=H.kept Q3 hns;have q4:=H.kept Q4 hns;have q5:=H.kept Q5 hns;have q6:=H.kept Q6 hns;have q7:=H.kept Q7 hns;have q8:=H.kept Q8 hns;have q9:=H.kept Q9 hns;have q10:=H.kept Q10 dH;have q11:=H.kept Q11 dH;have q12:=H.kept Q12 dH;have q13:=H.kept Q13 dH;have q14:=H.kept Q14 dH;have q15:=H.kept Q15 dH;have q16:=H.kept Q16 dH;have q17:=H.kept Q17 dH;have q18:=H.kept Q18 hns)
  | (go_at_call 31;(with_reducible refine (Cb H e.stamp (by (try simp only [List.length_append,List.length_singleton]);omega)).mono ?_);rintro x wa ⟨rfl,H⟩;have q0:=H.kept Q0 hns;have q1:=H.kept Q1 hns;have q2:=H.kept Q2 hns;have q3:=H.kept Q3 hns;have q4:=H.kept Q4 hns;have q5:=H.kept Q5 hns;have q6:=H.kept Q6 hns;have q7:=H.kept Q7 hns;have q8:=H.kept Q8 hns;have q9:=H.kept Q9 hns;have q10:=H.kept Q10 dH;have q11:=H.kept Q11 dH;have q12:=H.kept Q12 dH;have q13:=H.kept Q13 dH;have q14:=H.kept Q14 dH;have q15:=H.kept Q15 dH;have q16:=H.kept Q16 dH;have q17:=H.kept Q17 dH;have q18:=H.kept Q18 hns)
  | (go_at_call 116;(with_reducible refine (QS H _ _ _ _ _ (by (try simp only [List.length_append,List.length_singleton]);omega)).mono ?_);rintro x wa ⟨rfl,H⟩;have q0:=H.kept Q0 hns;have q1:=H.kept Q1 hns;have q2:=H.kept Q2 hns;have q3:=H.kept Q3 hns;have q4:=H.kept Q4 hns;have q5:=H.kept Q5 hns;have q6:=H.kept Q6 hns;have q7:=H.kept Q7 hns;have q8:=H.kept Q8 hns;have q9:=H.kept Q9 hns;have q10:=H.kept Q10 dH;have q11:=H.kept Q11 dH;have q12:=H.kept Q12 dH;have q13:=H.kept Q13 dH;have q14:=H.kept Q14 dH;have q15:=H.kept Q15 dH;have q16:=H.kept Q16 dH;have q17:=H.kept Q17 dH;have q18:=H.kept Q18 hns)
  | (go_at_call 30;(with_reducible refine (yO H e.over.length (by (try simp only [List.length_append,List.length_singleton]);omega) (by omega)).mono ?_);rintro x wa ⟨rfl,H⟩;have q0:=H.kept Q0 hns;have q1:=H.kept Q1 hns;have q2:=H.kept Q2 hns;have q3:=H.kept Q3 hns;have q4:=H.kept Q4 hns;have q5:=H.kept Q5 hns;have q6:=H.kept Q6 hns;have q7:=H.kept Q7 hns;have q8:=H.kept Q8 hns;have q9:=H.kept Q9 hns;have q10:=H.kept Q10 dH;have q11:=H.kept Q11 dH;have q12:=H.kept Q12 dH;have q13:=H.kept Q13 dH;have q14:=H.kept Q14 dH;have q15:=H.kept Q15 dH;have q16:=H.kept Q16 dH;have q17:=H.kept Q17 dH;have q18:=H.kept Q18 hns))
 obtain ⟨LL,hLL⟩:∃ LL,LL=l++qc e.dot++iP e.stamp++[UInt8.ofNat (fD [e.kind == 1,e.ck.hostOnly,e.ck.secure,e.ck.httpOnly,e.ck.persistent])]++aS e.over.length:=⟨_,rfl⟩;have hLn:LL.length≤1048700:=by rw [hLL];simp only [List.length_append,List.length_singleton];omega
 rw [← hLL] at H;have HLL:=Lib.hid hLL;clear hLL;clear q0;clear q1;clear q2;clear q3;clear q4;clear q5;clear q6;clear q7;clear q8;clear q9;clear q10;clear q11;clear q12;clear q13;clear q14;clear q15;clear q16;clear q17;clear q18;go_loopw [43] (fun i wr=>∃ k:Nat,k≤e.over.length∧i=.int .i64 k∧Hold (tight S w) W2 B wr (LL++eG (e.over.take k))) (fun i _=>e.over.length - (intOf i).toNat)
 case atStart=>exact ⟨0,Nat.zero_le _,rfl,by simpa [eG] using H⟩
 case round =>
  obtain ⟨k,hk,rfl,H⟩:=hrel;by_cases hlt:k<e.over.length
  ·have hdl:=lF (e.over.take k)
   rw [List.length_take,Nat.min_eq_left hk] at hdl;have hsn:=uM (e.over.take k) e.over[k];rw [← List.take_succ_eq_append_getElem hlt] at hsn;have HS:=Lib.hid hsn;clear hsn;rcases QO with hnil | ⟨A,off,rfl,hd⟩
   ·rw [hnil] at hlt;cases hlt
   ·have hnA:¬ tight S w A:=fun g=>hSA A off rfl (fun h0=>by rw [h0] at hlt;simp at hlt) g.1
    have x0:=H.kept (hd.dev k hlt) hnA;have x1:=H.kept (hd.inc k hlt) hnA;have x2:=H.kept (hd.seq k hlt) hnA;generalize e.over[k]=d at x0 x1 x2 HS;have hb0:Below wr.heap.size wr (wr.alloc (Obj.cells #[.int .i64 d.a.dev,.int .i64 d.a.inc,.int .i64 d.seq] 121)):=(Below.refl _ _).alloc (Nat.le_refl _) _;have hbx:∀ W',Below wr.heap.size wr W'→Hold (tight S w) W2 B W' (LL++eG (e.over.take k)):=fun _ hb=>H.below hb;go_upto_region 10 with fail
    refine au (fun W3 hW3=>?_);have hb3:Below wr.heap.size wr W3:=by rw [hW3.out];go_grown
    have y0:W3.cell? ⟨wr.heap.size,0,none⟩=some (.int .i64 d.a.dev):=by rw [hW3.out];go_simp
    have y1:W3.cell? ⟨wr.heap.size,1,none⟩=some (.int .i64 d.a.inc):=by rw [hW3.out];go_simp
    have y2:W3.cell? ⟨wr.heap.size,2,none⟩=some (.int .i64 d.seq):=by rw [hW3.out];go_simp
    replace H:=H.below hb3;clear hW3 x0 x1 x2 hbx hb0;go_wp2_with (go_at_call 69;(with_reducible refine (wJ H d (by (try simp only [List.length_append,List.length_singleton]);omega)).mono ?_);rintro x wa ⟨rfl,H⟩)
    go_roundw
    case rel=>exact ⟨k+1,by omega,by go_num,by rw [HS.out,← List.append_assoc];exact H⟩
    case measure => exact z65
  ·have htk:e.over.take k=e.over:=List.take_of_length_le (by omega)
   rw [htk] at H;clear htk;have hdl:=lF e.over;have q0:=H.kept Q0 hns;have q1:=H.kept Q1 hns;have q2:=H.kept Q2 hns;have q3:=H.kept Q3 hns;have q4:=H.kept Q4 hns;have q5:=H.kept Q5 hns;have q6:=H.kept Q6 hns;have q7:=H.kept Q7 hns;have q8:=H.kept Q8 hns;have q9:=H.kept Q9 hns;have q10:=H.kept Q10 dH;have q11:=H.kept Q11 dH;have q12:=H.kept Q12 dH;have q13:=H.kept Q13 dH;have q14:=H.kept Q14 dH;have q15:=H.kept Q15 dH;have q16:=H.kept Q16 dH;have q17:=H.kept Q17 dH;have q18:=H.kept Q18 hns;have hk0:=hfit.out.kind;by_cases hk1:e.kind=1
   ·have e1:(e.kind == 1)=true:=beq_iff_eq.2 hk1
    have HE:Hid (l++evB e=LL++eG e.over++gG (bl e.key.name)++gG (bl e.key.domain)++gG (bl e.key.path)++gG (bl e.ck.value)++yP e.ck.expiry++aS e.ck.creation.toNat++aS e.ck.access.toNat):=by
     rw [Hid,HLL.out];unfold evB BO xN;rw [if_pos hk1];simp
    obtain ⟨⟨f1,f2⟩,⟨f3,f4⟩,f5,f6⟩:=hfit.out.item hk1;obtain ⟨y,hy⟩:∃ y:Nat,e.ck.creation=y:=⟨e.ck.creation.toNat,by omega⟩;obtain ⟨z,hz'⟩:∃ z:Nat,e.ck.access=z:=⟨e.ck.access.toNat,by omega⟩;rw [hy,hz'] at HE;rw [hy] at f1 f2 Q16 q16;rw [hz'] at f3 f4 Q17 q17;simp only [Int.toNat_natCast] at HE;have hwy:IntKind.u64.wrap (y:Int)=(y:Int):=IntWalk.u64_in _ (by omega);have hwz:IntKind.u64.wrap (z:Int)=(z:Int):=IntWalk.u64_in _ (by omega);clear hk1 hk0 hy hz';obtain ⟨L0,hL0⟩:∃ L0,L0=LL++eG e.over:=⟨_,rfl⟩;have XZ:L0.length≤1060000:=by rw [hL0,List.length_append];omega
    rw [← hL0] at H HE;clear hL0;obtain ⟨s1,s2,s3,s4⟩:=hsz;have t1:=rW (bl e.key.name) (by rw [aH];omega);have t2:=rW (bl e.key.domain) (by rw [aH];omega);have t3:=rW (bl e.key.path) (by rw [aH];omega);have t4:=rW (bl e.ck.value) (by rw [aH];omega);simp only [aH] at t1 t2 t3 t4;have t5:=O6 e.ck.expiry (by omega) (by omega);have t6:=bF y (by omega);have HD:=H.drew;have H1:=Lib.hid (CB HD e.key.name (by omega) (by omega));have H2:=Lib.hid (fun (W:World) (h:Hold (tight S w) W2 B W (L0++gG (bl e.key.name)))=>CB h e.key.domain (by simp only [List.length_append];omega) (by omega));have H3:=Lib.hid (fun (W:World) (h:Hold (tight S w) W2 B W (L0++gG (bl e.key.name)++gG (bl e.key.domain)))=>CB h e.key.path (by simp only [List.length_append];omega) (by omega));have H4:=Lib.hid (fun (W:World) (h:Hold (tight S w) W2 B W (L0++gG (bl e.key.name)++gG (bl e.key.domain)++gG (bl e.key.path)))=>CB h e.ck.value (by simp only [List.length_append];omega) (by omega));go_wp2;have r7:=HD.kept Q7 hns;have r8:=HD.kept Q8 hns;have r9:=HD.kept Q9 hns;have r10:=HD.kept Q10 dH;clear q0 q1 q2 q3 q4 q5 q6 q7 q8 q9 q10 q11 q12 q13 q14 q15 q16 q17 q18;go_region_held3 (fun w'=>w'.cell? ⟨w.heap.size,7,none⟩=some (.string e.key.name)∧w'.cell? ⟨w.heap.size,8,none⟩=some (.string e.key.domain)∧w'.cell? ⟨w.heap.size,9,none⟩=some (.string e.key.path)∧w'.cell? ⟨w1.heap.size,0,none⟩=some (.string e.ck.value)) (first | exact ⟨k7,k8,k9,k10⟩ | go_keep)
     (first
      | (go_at_call 32;(with_reducible refine H1.out.mono ?_);rintro x wa ⟨rfl,Ha⟩;have k7:=Ha.kept Q7 hns;have k8:=Ha.kept Q8 hns;have k9:=Ha.kept Q9 hns;have k10:=Ha.kept Q10 dH)
      | (go_at_call 32;(with_reducible refine (H2.out _ Ha).mono ?_);rintro x wb ⟨rfl,Hb⟩;have k7:=Hb.kept Q7 hns;have k8:=Hb.kept Q8 hns;have k9:=Hb.kept Q9 hns;have k10:=Hb.kept Q10 dH)
      | (go_at_call 32;(with_reducible refine (H3.out _ Hb).mono ?_);rintro x wc ⟨rfl,Hc⟩;have k7:=Hc.kept Q7 hns;have k8:=Hc.kept Q8 hns;have k9:=Hc.kept Q9 hns;have k10:=Hc.kept Q10 dH)
      | (go_at_call 32;(with_reducible refine (H4.out _ Hc).mono ?_);rintro x wd ⟨rfl,Hd⟩;have k7:=Hd.kept Q7 hns;have k8:=Hd.kept Q8 hns;have k9:=Hd.kept Q9 hns;have k10:=Hd.kept Q10 dH))
    obtain ⟨M,hM⟩:∃ M,M=L0++gG (bl e.key.name)++gG (bl e.key.domain)++gG (bl e.key.path)++gG (bl e.ck.value):=⟨_,rfl⟩;have hMn:M.length≤100000000:=by rw [hM];simp only [List.length_append];omega
    rw [← hM] at Hd HE;clear hM;have HD2:=Hd.drew;have I1:=Lib.hid (WE HD2 e.ck.expiry (by omega) (by omega) (by omega));have I2:=Lib.hid (fun (W:World) (h:Hold (tight S w) W2 B W (M++yP e.ck.expiry))=>yO h y (by simp only [List.length_append];omega) (by omega));have I3:=Lib.hid (fun (W:World) (h:Hold (tight S w) W2 B W (M++yP e.ck.expiry++aS y))=>yO h z (by simp only [List.length_append];omega) (by omega));go_wp2;have r15:=HD2.kept Q15 dH;have r16:=HD2.kept Q16 dH;have r17:=HD2.kept Q17 dH;go_region_held3 (fun w'=>w'.cell? ⟨w1.heap.size,5,none⟩=some (.int .i64 e.ck.expiry)∧w'.cell? ⟨w1.heap.size,6,none⟩=some (.int .i64 y)∧w'.cell? ⟨w1.heap.size,7,none⟩=some (.int .i64 z)) (first | exact ⟨k15,k16,k17⟩ | go_keep)
     (first
      | (go_at_call 117;(with_reducible refine I1.out.mono ?_);rintro x we ⟨rfl,He⟩;have k15:=He.kept Q15 dH;have k16:=He.kept Q16 dH;have k17:=He.kept Q17 dH)
      | (go_at_call 30;(with_reducible refine (I2.out _ He).mono ?_);rintro x wf ⟨rfl,Hf⟩;have k15:=Hf.kept Q15 dH;have k16:=Hf.kept Q16 dH;have k17:=Hf.kept Q17 dH)
      | (go_at_call 30;(with_reducible refine (I3.out _ Hf).mono ?_);rintro x wg ⟨rfl,Hg⟩;have k15:=Hg.kept Q15 dH;have k16:=Hg.kept Q16 dH;have k17:=Hg.kept Q17 dH))
    go_wp2;go_end0;exact ⟨rfl,by rw [HE.out];exact Hg.rebase o7⟩
   ·have e1:(e.kind == 1)=false:=beq_eq_false_iff_ne.2 hk1
    have HE:Hid (l++evB e=LL++eG e.over):=by
     rw [Hid,HLL.out];unfold evB BO xN;rw [if_neg hk1];simp
    clear hk1 hk0;go_wp2;go_end0;exact ⟨rfl,by rw [HE.out];exact H.rebase o7⟩
end Go.Proofs.YtepkclldbkhanaaGreat
