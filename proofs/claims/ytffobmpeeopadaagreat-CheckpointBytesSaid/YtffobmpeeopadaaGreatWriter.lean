/- The writer of package pack. Conditions: at most 2^29 bytes. -/
import Derived.Test.YtffobmpeeopadaaGreatCel
import Derived.OneCell
import Derived.Lib.AppendStr
import Derived.Lib.Zigzag
import Derived.IntWalk
import Derived.Test.YtffobmpeeopadaaGreatDot
import Derived.Test.YtffobmpeeopadaaGreatKit
set_option linter.unusedSimpArgs false
set_option linter.unusedVariables false
set_option linter.unnecessarySimpa false
set_option maxHeartbeats 16000000
set_option maxRecDepth 100000
open Go.Proofs.Tryz
namespace Go.Proofs.YtffobmpeeopadaaGreat
open Go.RowKit
theorem grow_grow {S:Nat->Prop} {a b:World} (h:a.heap.size<=b.heap.size):∀ k,grow (grow S a) b k->grow S a k:=by
 rintro k ((g | g) | g)
 ·exact Or.inl g
 ·exact Or.inr g
 ·exact Or.inr (by omega)
/-- block B holds a writer of l, whose memory lies in S -/
structure Wr (w:World) (S:Nat->Prop) (B:Nat) (l:Bytes):Prop where
 inS:S B
 ex:∃ v base,w.heap[B]?=some (.cells #[v] 76 (0,0))/\w.ownsRow base 5 1 v l.length (aI l)/\∀ g,v.ownBlock=some g->S g/\g≠B
theorem Wr.mono {w:World} {S T:Nat->Prop} {B:Nat} {l:Bytes} (h:Wr w S B l) (hST:∀ k,S k->T k):Wr w T B l:=by
 obtain ⟨h1,v,base,h2,h3,h4⟩:=h;exact ⟨hST _ h1,v,base,h2,h3,fun g hg=>⟨hST _ (h4 g hg).1,(h4 g hg).2⟩⟩
theorem Wr.frame {w w':World} {S T:Nat->Prop} {B:Nat} {l:Bytes} (h:Wr w S B l) (hf:Fr T w w') (hST:∀ k,S k->¬ T k):Wr w' S B l:=by
 obtain ⟨h1,v,base,h2,h3,h4⟩:=h;have hk:∀ k,k<w.heap.size->S k->w'.heap[k]?=w.heap[k]?:=fun k hk hs=>hf.block k hk (hST k hs);refine ⟨h1,v,base,?_,⟨h3.1,?_⟩,h4⟩
 ·rw [hk B (lt_of_block h2) h1];exact h2
 ·rcases h3.2 with hn | ⟨g,cap,cur,rfl,hbs,hgg,rest⟩
  ·exact .inl hn
  ·exact .inr ⟨g,cap,cur,rfl,hbs,by rw [hk g (lt_of_block hgg) (h4 g rfl).1];exact hgg,rest⟩
/-- the bytes that a row of one's own holds, read -/
theorem bT {w:World} {base:Nat} {v:Value} {l:Bytes} (h:w.ownsRow base 5 1 v l.length (aI l)):∃ a cap,v=.slice a l.length cap/\BytesIn w a l:=by
 have hc:=fun g (hg:v.ownBlock=some g)=>h.cells hg;rcases h.2 with ⟨rfl,hn⟩ | ⟨g,cap,cur,rfl,rest⟩
 ·obtain rfl:l=[]:=List.length_eq_zero_iff.1 hn
  exact ⟨none,0,rfl,Or.inl rfl⟩
 ·refine ⟨_,cap,rfl,Or.inr ⟨g,0,rfl,fun j hj=>?_⟩⟩
  have:=hc g rfl j (.int .u8 l[j].toNat) (by simp [aI,hj]);rw [Addr.add_mid] at this;exact this
/-- behind a writer's method -/
def JW (S:Nat->Prop) (B:Nat) (l:Bytes) (w:World) (e:Ending) (w':World):Prop :=
 e=.returned (.pointer (some ⟨B,0,none⟩))/\Wr w' (grow S w) B l/\Fr S w w'
/-- the writer's new slice is stored -/
theorem AB {w w1:World} {S:Nat->Prop} {B:Nat} {v0 v:Value} {l:Bytes} (hS:S B) (h0:w.heap[B]?=some (.cells #[v0] 76 (0,0)))
 (hb:Below w.heap.size w w1) (hown:w1.ownsRow w.heap.size 5 1 v l.length (aI l)) :
 Wr (w1.setCell ⟨B,0,none⟩ v) (grow S w) B l/\Fr S w (w1.setCell ⟨B,0,none⟩ v):=by
 have hB:=lt_of_block h0;have h1:w1.heap[B]?=some (.cells #[v0] 76 (0,0)):=by rw [hb.block B hB];exact h0
 refine ⟨⟨Or.inl hS,v,w.heap.size,one_setCell h1,ownsRow_setCell_below hown hB v,fun g hg=>?_⟩,⟨hb.os,hb.tape,hb.output,?_,?_⟩⟩
 ·have:=hown.lt g hg
  exact ⟨Or.inr this.1,by omega⟩
 ·simp only [World.setCell,Array.size_modify];exact hb.size
 ·intro k hk hs
  rw [Below.heap_setCell _ _ _ _ (fun e=>hs (by rw [e];exact hS))];exact hb.block k hk
theorem rJ (S:Nat->Prop) (B:Nat) (l:Bytes) (n:Nat) (w:World) (hl:l.length<=536870912) (hn:n<18446744073709551616) (h:Wr w S B l) :
 Calls prog 24 #[.pointer (some ⟨B,0,none⟩),.int .u64 n] w (JW S B (l++aj n) w):=by
 obtain ⟨hS,v,base,h0,hown,hg⟩:=h;obtain ⟨a,cap,rfl,hin⟩:=bT hown;have hc:=cell_of_one h0;have hP:=aa (Au a cap l n w hl hn hin);have H0:=aa h0;clear h0 hown hg hin;go_enter func24,ntmps24;go_wp2_with (go_at_call 72;refine hP.out.mono ?_;rintro e w1 ⟨v',rfl,hown1,hb⟩;obtain ⟨a1,cap1,rfl,hin1⟩:=bT hown1;have hcB:=kept hb hc;have hfB:=(hb.frozen (p:=⟨B,0,none⟩) (lt_of_block H0.out)).trans (free_of_one H0.out))
 go_ret;have:=AB hS H0.out hb hown1;rw [aq] at this;exact ⟨rfl,this.1,this.2⟩
def dO:List Bool->Nat
 | []=>0
 | b :: r=>(if b then 1 else 0)+2 * dO r
def nV (w:World) (b:Nat) (l:List Bool):Prop:=∀ j (h:j<l.length),w.cell? ⟨b,j,none⟩=some (.bool l[j])
theorem uq:∀ l:List Bool,dO l<2 ^ l.length
 | []=>by simp [dO]
 | b :: r=>by
   have:=uq r;simp only [dO,List.length_cons,Nat.pow_succ];split <;> omega
theorem tJ:∀ (l:List Bool) (b:Bool),dO (l++[b])=dO l+(if b then 2 ^ l.length else 0)
 | [],b=>by cases b <;> simp [dO]
 | a :: r,b=>by
   simp only [List.cons_append,dO,tJ r b,List.length_cons,Nat.pow_succ]
   cases b <;> simp <;> omega
theorem OU:∀ k:Fin 8,∀ c:Fin 256,c.val<2 ^ k.val->bits BinOp.or IntKind.u8 ((c.val:Nat):Int) (2 ^ k.val % 256)=((c.val+2 ^ k.val:Nat):Int):=by decide +kernel
theorem Wl (k c:Nat) (hk:k<8) (hc:c<2 ^ k):bits BinOp.or IntKind.u8 (c:Int) (2 ^ k % 256)=((c+2 ^ k:Nat):Int):=by
 have h2:2 ^ k<=2 ^ 7:=Nat.pow_le_pow_right (by omega) (by omega);exact OU ⟨k,hk⟩ ⟨c,by omega⟩ hc
theorem Qa {w w2:World} {S:Nat->Prop} {B:Nat} {v v0:Value} {o:Obj} {t:TypeId} (h0:w.heap[B]?=some (.cells #[v0] t (0,0)))
 (hg:∀ g,v.ownBlock=some g->S g/\g≠B) (hgrow:(w.alloc o).grownBy w2 v.ownBlock):Fr S w w2/\w2.heap[B]?=some (.cells #[v0] t (0,0)):=by
 have hb:∀ k,k<w.heap.size->some k≠v.ownBlock->w2.heap[k]?=w.heap[k]?:=fun k hk hne =>
  (hgrow.block k (by simp;omega) hne).trans (Below.heap_alloc w o k hk)
 refine ⟨⟨hgrow.os,hgrow.tape,hgrow.output,?_,fun k hk hs=>hb k hk (fun e=>hs (hg k e.symm).1)⟩,?_⟩
 ·have:=hgrow.size;simp at this;omega
 ·rw [hb B (lt_of_block h0) (fun e=>(hg B e.symm).2 rfl)];exact h0
theorem KY {w:World} {base:Nat} {e:TypeId} {size:Nat} {v:Value} {n:Nat} {xs:List Value} (h:w.ownsRow base e size v n xs):∃ b,b<=w.heap.size/\w.ownsRow b e size v n xs:=by
 rcases h.2 with ⟨rfl,hn⟩ | ⟨g,cap,cur,rfl,hbs,hgg,rest⟩
 ·exact ⟨0,Nat.zero_le _,h.1,.inl ⟨rfl,hn⟩⟩
 ·exact ⟨g,Nat.le_of_lt (lt_of_block hgg),h.1,.inr ⟨g,cap,cur,rfl,al _,hgg,rest⟩⟩
theorem Oa {w w2:World} {S:Nat->Prop} {B base n:Nat} {v0 v:Value} {l:Bytes} (hS:S B) (h2:w2.heap[B]?=some (.cells #[v0] 76 (0,0))) (hf:Fr S w w2)
 (hn:n=l.length) (hown:w2.ownsRow base 5 1 v n (aI l)) (hg:∀ g,v.ownBlock=some g->grow S w g/\g≠B) :
 Wr (w2.setCell ⟨B,0,none⟩ v) (grow S w) B l/\Fr S w (w2.setCell ⟨B,0,none⟩ v):=by
 subst hn;refine ⟨⟨Or.inl hS,v,base,one_setCell h2,ownsRow_setCell_other hown (fun e=>(hg B e).2 rfl) v,hg⟩,⟨hf.os,hf.tape,hf.output,?_,?_⟩⟩
 ·simp only [World.setCell,Array.size_modify];exact hf.size
 ·intro k hk hs
  rw [Below.heap_setCell _ _ _ _ (fun e=>hs (by rw [e];exact hS))];exact hf.block k hk hs
theorem Qn (S:Nat->Prop) (B:Nat) (l:Bytes) (A:Nat) (fs:List Bool) (w:World) (hl:l.length<=536870912) (hf:fs.length<=8) (h:Wr w S B l) (hb:nV w A fs) :
 Calls prog 121 #[.pointer (some ⟨B,0,none⟩),.slice (some ⟨A,0,none⟩) fs.length fs.length] w (JW S B (l++[UInt8.ofNat (dO fs)]) w):=by
 obtain ⟨i0,hi,hz0,hz1,hz2⟩:=info_parts Tryz.infoByte;obtain ⟨hS,v,base0,h0,hown0,hg⟩:=h;obtain ⟨base,hbase,hown⟩:=KY hown0;obtain ⟨a,cap,rfl,hin⟩:=bT hown0;have hc:=cell_of_one h0;have hfz:=free_of_one h0;have H0:=aa h0;have HG:=aa hg;clear h0 hown0 hg hin;go_enter func121,ntmps121;go_wp2;go_loop [5,6,7,12] (fun c _ _ i=>∃ k:Nat,k<=fs.length/\i=.int .i64 k/\c=.int .u8 (dO (fs.take k))) (fun _ _ _ i=>fs.length - (intOf i).toNat)
 case atStart=>exact ⟨0,Nat.zero_le _,rfl,by simp [dO]⟩
 case round =>
  obtain ⟨k,hk,rfl,rfl⟩:=hrel;by_cases hlt:k<fs.length
  ·have hcell:=hb k hlt
   have hk8:(k:Int)<8:=by omega
   have hlt2:=uq (fs.take k);rw [List.length_take,Nat.min_eq_left hk] at hlt2;have hsn:=tJ (fs.take k) fs[k];rw [<- List.take_succ_eq_append_getElem hlt,List.length_take,Nat.min_eq_left hk] at hsn;have hor:=Wl k (dO (fs.take k)) (by omega) hlt2
   cases hq:fs[k] with
   | false =>
     rw [hq] at hcell hsn;have HS:=aa hsn;clear hsn hor hlt2;go_wp2;go_round
     case rel=>exact ⟨k+1,by omega,by go_num,by rw [HS.out];simp⟩
     case measure => exact z67
   | true =>
     rw [hq] at hcell hsn;have HS:=aa hsn;have HO:=aa hor;clear hsn hor hlt2;go_wp2;go_round
     case rel=>exact ⟨k+1,by omega,by go_num,by rw [HO.out,HS.out];simp⟩
     case measure => exact z67
  ·have htk:Hid (fs.take k=fs):=List.take_of_length_le (by omega)
   rw [htk.out];have hfl:dO fs<256:=by have h9:=uq fs;have h2:2 ^ fs.length<=2 ^ 8:=Nat.pow_le_pow_right (by omega) hf;omega
   go_wp2_with (at_builtin;go_loud (refine wpList_append_own_at _ rfl _ _ 40 rfl base 5 i0 (.int .u8 0) 1 1 underlying40 hi hz0 hz1 hz2 rfl (by decide) _ _ _ rfl (hown.alloc _) ⟨w.heap.size,0,none⟩ 1 1 [.int .u8 (dO fs:Int)] rfl rfl (cell_one_new _ _ _) (by simp [Value.oneCell']) (by unfold maxLen;omega) (by omega) (by simp;omega) ?_))
   intro v' w2 hown2 hgrow _ hat;obtain ⟨hF,hB2⟩:=Qa H0.out HG.out hgrow;rw [show (l.length+1)=(l++[UInt8.ofNat (dO fs)]).length by simp,show aI l++[Value.int .u8 (dO fs:Int)]=aI (l++[UInt8.ofNat (dO fs)]) by
        rw [bQ];congr 1;simp only [aI,List.map_cons,List.map_nil,UInt8.toNat_ofNat'];congr 3;omega] at hown2
   obtain ⟨a1,cap1,rfl,hin1⟩:=bT hown2;have hcB:=cell_of_one hB2;have hfB:=free_of_one hB2;have hgg:Hid (∀ g,(Value.slice a1 (l++[UInt8.ofNat (dO fs)]).length cap1).ownBlock=some g->grow S w g/\g≠B):=fun g e=>by
        have hBl:=lt_of_block H0.out;rcases hat with hat | hat
        ·rw [hat] at e;exact ⟨Or.inl (HG.out g e).1,(HG.out g e).2⟩
        ·rw [hat] at e
         have:g=w.heap.size+1:=by simpa using e.symm
         exact ⟨Or.inr (by omega),by omega⟩
   have hfin:=aa (Oa hS hB2 hF rfl hown2 hgg.out);clear hat hgrow hown2 hin1;go_wp2;go_ret;have h9:=hfin.out;simp only [aq,List.length_cons,List.length_nil,ar] at h9;exact ⟨rfl,h9.1,h9.2⟩
theorem strCells_eq (s:ByteArray):Lib.strCells s=aI (bl s):=rfl
def bZ (l:Bytes):Bytes:=aj l.length++l
theorem SG (S:Nat->Prop) (B:Nat) (l:Bytes) (s:ByteArray) (w:World) (hl:l.length<=268435456) (hs:s.size<=268435456) (h:Wr w S B l) :
 Calls prog 26 #[.pointer (some ⟨B,0,none⟩),.string s] w (JW S B (l++bZ (bl s)) w):=by
 obtain ⟨i0,hi,hz0,hz1,hz2⟩:=info_parts Tryz.infoByte;obtain ⟨hS,v,base,h0,hown,hg⟩:=h;obtain ⟨a,cap,rfl,hin⟩:=bT hown;have hc:=cell_of_one h0;have l1:=aV s.size (by omega);have hP:=aa (Au a cap l s.size w (by omega) (by omega) hin);have H0:=aa h0;clear h0 hown hg hin;go_enter func26,ntmps26;go_wp2_with (first
  | (go_at_call 72;(with_reducible refine hP.out.mono ?_);rintro e w1 ⟨v',rfl,hown1,hb⟩;have hzz:=hb.size)
  | (at_builtin;go_loud (refine Lib.wpList_append_own_string _ rfl _ _ 40 9 rfl w.heap.size 5 i0 underlying40 underlying9 hi hz0 hz1 hz2 _ _ _ rfl hown1 s rfl (by unfold maxLen;simp;omega) (by simp;omega) (by omega) ?_)))
 intro v2 w2 hown2 hgrow _;have hb2:=hb.grown hgrow hzz (fun k hk=>(hown1.lt k hk).1);rw [show l.length+(aj s.size).length+s.size=(l++bZ (bl s)).length by simp [bZ,aH];omega,show aI (l++aj s.size)++Lib.strCells s=aI (l++bZ (bl s)) by
  rw [strCells_eq,<- bQ,List.append_assoc];simp [bZ,aH]] at hown2
 obtain ⟨a1,cap1,rfl,hin1⟩:=bT hown2;have hcB:=kept hb2 hc;have hfB:=(hb2.frozen (p:=⟨B,0,none⟩) (lt_of_block H0.out)).trans (free_of_one H0.out);have hfin:=aa (AB hS H0.out hb2 hown2);clear hgrow hown2 hin1;go_wp2;go_ret;have h9:=hfin.out;rw [aq] at h9;exact ⟨rfl,h9.1,h9.2⟩
def rQ (n:Int):Bytes:=aj (Lib.zigzag n)
theorem RV (x:Int) (h0:0<=x) (h1:x<=4398046511104):bits BinOp.xor IntKind.u64 (IntKind.u64.wrap (IntKind.u64.wrap x * 2)) (IntKind.u64.wrap (x / 9223372036854775808))=((Lib.zigzag x:Nat):Int):=by
 have e1:IntKind.u64.wrap (IntKind.u64.wrap x * 2)=(((2 * x).toNat:Nat):Int):=by
  rw [IntKind.wrap_u64,IntKind.wrap_u64];omega
 have e2:IntKind.u64.wrap (x / 9223372036854775808)=((0:Nat):Int):=by
  rw [IntKind.wrap_u64];omega
 rw [e1,e2,bits_xor_u64_nat _ _ (by omega) (by decide),Nat.xor_zero];unfold Lib.zigzag;rw [if_pos h0]
theorem RY (x:Int) (h0 : -4398046511104<=x) (h1:x<0):bits BinOp.xor IntKind.u64 (IntKind.u64.wrap (IntKind.u64.wrap x * 2)) (IntKind.u64.wrap (x / 9223372036854775808))=((Lib.zigzag x:Nat):Int):=by
 have e1:IntKind.u64.wrap (IntKind.u64.wrap x * 2)=(((2 * x+18446744073709551616).toNat:Nat):Int):=by
  rw [IntKind.wrap_u64,IntKind.wrap_u64];omega
 have e2:IntKind.u64.wrap (x / 9223372036854775808)=((2 ^ 64 - 1:Nat):Int):=by
  rw [IntKind.wrap_u64];omega
 rw [e1,e2,bits_xor_u64_nat _ _ (by omega) (by decide),Nat.xor_comm,Lib.xor_ones64 _ (by omega)];unfold Lib.zigzag;rw [if_neg (by omega)];omega
theorem TZ (x:Int) (h0 : -4398046511104<=x) (h1:x<=4398046511104):bits BinOp.xor IntKind.u64 (IntKind.u64.wrap (IntKind.u64.wrap x * 2)) (IntKind.u64.wrap (x / 9223372036854775808))=((Lib.zigzag x:Nat):Int):=by
 by_cases h:0<=x
 ·exact RV x h h1
 ·exact RY x h0 (by omega)
theorem Tf (n:Int) (w:World) (h0 : -4398046511104<=n) (h1:n<=4398046511104):Calls prog 191 #[.int .i64 n] w (fun e w'=>e=.returned (.int .u64 ((Lib.zigzag n:Nat):Int))/\w=w'):=by
 have HE:=aa (TZ n h0 h1);generalize Lib.zigzag n=z at HE ⊢;go_enter func191,ntmps191;go_wp2;go_ret;exact ⟨by rw [HE.out];rfl,rfl⟩
theorem FT (n:Int) (h0 : -4398046511104<=n) (h1:n<=4398046511104):Lib.zigzag n<17592186044416:=by
 unfold Lib.zigzag;split <;> omega
theorem Nc (a:Option Addr) (cap:Nat) (l:Bytes) (n:Int) (w:World) (hl:l.length<=536870912) (h0 : -4398046511104<=n) (h1:n<=4398046511104) (h:BytesIn w a l) :
 Calls prog 161 #[.slice a l.length cap,.int .i64 n] w (dL (l++rQ n) w):=by
 have hF:=aa (Tf n w h0 h1);have hz:=FT n h0 h1;have hP:=aa (Au a cap l (Lib.zigzag n) w hl (by omega) h);have HE:Hid (rQ n=aj (Lib.zigzag n)):=rfl;generalize rQ n=zb at HE ⊢;generalize Lib.zigzag n=z at hF hz hP HE;clear h;go_enter func161,ntmps161;go_wp2_with (first
  | (go_at_call 191;(with_reducible refine hF.out.mono ?_);rintro e w1 ⟨rfl,rfl⟩)
  | (go_at_call 72;(with_reducible refine hP.out.mono ?_);rintro e w1 ⟨v',rfl,hown1,hb⟩))
 go_ret;exact ⟨_,rfl,by rw [HE.out];exact hown1,hb⟩
theorem Ux (S:Nat->Prop) (B:Nat) (l:Bytes) (n:Int) (w:World) (hl:l.length<=536870912) (h0 : -4398046511104<=n) (h1:n<=4398046511104) (h:Wr w S B l) :
 Calls prog 122 #[.pointer (some ⟨B,0,none⟩),.int .i64 n] w (JW S B (l++rQ n) w):=by
 obtain ⟨hS,v,base,h0',hown,hg⟩:=h;obtain ⟨a,cap,rfl,hin⟩:=bT hown;have hc:=cell_of_one h0';have hP:=aa (Nc a cap l n w hl h0 h1 hin);have H0:=aa h0';clear h0' hown hg hin;go_enter func122,ntmps122;go_wp2_with (go_at_call 161;refine hP.out.mono ?_;rintro e w1 ⟨v',rfl,hown1,hb⟩;obtain ⟨a1,cap1,rfl,hin1⟩:=bT hown1;have hcB:=kept hb hc;have hfB:=(hb.frozen (p:=⟨B,0,none⟩) (lt_of_block H0.out)).trans (free_of_one H0.out))
 go_ret;have:=AB hS H0.out hb hown1;rw [aq] at this;exact ⟨rfl,this.1,this.2⟩
theorem IM {S:Nat->Prop} {b:Nat} {w w2:World} (h:¬ S b) (hs:w.heap.size<=w2.heap.size) (hb:b<w.heap.size):¬ grow S w2 b:=fun g=>by
 rcases g with g | g
 ·exact h g
 ·omega
def NY (S:Nat->Prop) (B:Nat) (l:Bytes) (w:World) (e:Ending) (w':World):Prop :=
 e=.returned (.tuple #[])/\Wr w' (grow S w) B l/\Fr S w w'
theorem MW (S:Nat->Prop) (B:Nat) (l:Bytes) (w:World) (hl:l.length<=536870912) (h:Wr w S B l) :
 Calls prog 28 #[.pointer (some ⟨B,0,none⟩)] w (dL l w):=by
 obtain ⟨hS,v,base,h0,hown,hg⟩:=h;obtain ⟨a,cap,rfl,hin⟩:=bT hown;have hc:=cell_of_one h0;have hP:=aa (lJ a cap l w (by omega) hin);have H0:=aa h0;clear h0 hown hg hin;go_enter func28,ntmps28;go_wp2_with (go_at_call 76;refine hP.out.mono ?_;rintro e w1 ⟨v',rfl,hown1,hb⟩)
 go_ret;exact ⟨_,rfl,hown1,hb⟩
def jK (d:Dot):Bytes:=if bi d=true then aj d.a.dev.toNat++aj d.a.inc.toNat++aj d.seq.toNat else []
def dG (s:Stamp):Bytes:=if dM s=true then aj s.wall.toNat++aj s.count.toNat++aj s.dev.toNat else []
theorem z101 {p : Prop} (h : p := by
 rw [HB.out]
 refine hw4.mono fun k g => ?_
 have g1 := grow_grow hf3.size k g
 have g2 := grow_grow hf2.size k g1
 rcases g2 with g2 | g2
 ·exact Or.inl g2
 ·exact Or.inr (by simp at g2; omega)) : p := h
theorem Mc (S:Nat->Prop) (B:Nat) (l:Bytes) (d:Dot) (w:World) (hl:l.length<=536870800) (h:Wr w S B l) (hSl:∀ k,S k->k<w.heap.size) :
 Calls prog 70 #[.pointer (some ⟨B,0,none⟩),.agg #[.int .i64 d.a.dev,.int .i64 d.a.inc,.int .i64 d.seq]] w (NY S B (l++jK d) w):=by
 have HR0:=fun (W:World)=>iM d W
 cases h1:bi d with
 | false =>
   have HB:Hid (l++jK d=l):=by unfold Hid jK;rw [h1];simp
   rw [h1] at HR0;have HR:=aa HR0;clear HR0 h1;go_enter func70,ntmps70;go_wp2_with (go_at_call 106;refine (HR.out _).mono ?_;rintro e w1 ⟨rfl,hb⟩)
   go_end0;have hb2:=below2 ((Below.refl w.heap.size w).alloc (al _) (Obj.cells #[.int .i64 d.a.dev,.int .i64 d.a.inc,.int .i64 d.seq] 55)) hb;exact ⟨rfl,by rw [HB.out];exact (h.frame (Fr.of_below (S:=fun _=>False) hb2) (fun _ _ g=>g)).mono (fun _ g=>Or.inl g),Fr.of_below hb2⟩
 | true =>
   have hd:0<=d.a.dev/\d.a.dev<64/\1<=d.a.inc/\d.a.inc<=1048576/\1<=d.seq/\d.seq<=4294967296:=by
    have:=h1;unfold bi jh at this;simp at this;omega
   have HB:Hid (l++jK d=l++aj d.a.dev.toNat++aj d.a.inc.toNat++aj d.seq.toNat):=by unfold Hid jK;rw [h1];simp
   rw [h1] at HR0;have HR:=aa HR0;obtain ⟨x,hx⟩:∃ x:Nat,d.a.dev=x:=⟨d.a.dev.toNat,by omega⟩;obtain ⟨y,hy⟩:∃ y:Nat,d.a.inc=y:=⟨d.a.inc.toNat,by omega⟩;obtain ⟨z,hz⟩:∃ z:Nat,d.seq=z:=⟨d.seq.toNat,by omega⟩;rw [hx,hy,hz] at hd HB;rw [hx,hy,hz] at HR ⊢;obtain ⟨e1,e2,e3,e4,e5,e6⟩:=hd;have l1:=aV x (by omega);have l2:=aV y (by omega);have l3:=aV z (by omega);clear HR0 h1 hx hy hz;go_enter func70,ntmps70;go_wp2_with (go_at_call 106;refine (HR.out _).mono ?_;rintro e w1 ⟨rfl,hb⟩;have q0:=kept hb (World.cell?_alloc_new w #[.int .i64 x,.int .i64 y,.int .i64 z] 55 0);have q1:=kept hb (World.cell?_alloc_new w #[.int .i64 x,.int .i64 y,.int .i64 z] 55 1);have q2:=kept hb (World.cell?_alloc_new w #[.int .i64 x,.int .i64 y,.int .i64 z] 55 2))
   have hz1:w.heap.size<w1.heap.size:=World.block_lt_of_cell? w1 _ q0;have hb2:=below2 ((Below.refl w.heap.size w).alloc (al _) (Obj.cells #[.int .i64 (x:Int),.int .i64 (y:Int),.int .i64 (z:Int)] 55)) hb;have hw1:Wr w1.drew S B l:=(h.frame (Fr.of_below (S:=fun _=>False) hb2) (fun _ _ g=>g)).frame (Fr.of_below (S:=fun _=>False) (Below.refl w1.heap.size w1).drew) (fun _ _ g=>g);have hns:¬ S w.heap.size:=fun g=>by have:=hSl _ g;omega
   have dP:¬ grow S w1.drew w.heap.size:=fun g=>by rcases g with g | g;exact hns g;simp at g;omega
   have Q0:w1.drew.cell? ⟨w.heap.size,0,none⟩=some (.int .i64 x):=q0;have Q1:w1.drew.cell? ⟨w.heap.size,1,none⟩=some (.int .i64 y):=q1;have Q2:w1.drew.cell? ⟨w.heap.size,2,none⟩=some (.int .i64 z):=q2;have HN1:=aa (rJ S B l x w1.drew (by omega) (by omega) hw1);have HN2:=aa (fun (W:World) (hW:Wr W (grow S w1.drew) B (l++aj x))=>rJ (grow S w1.drew) B (l++aj x) y W (by simp;omega) (by omega) hW);have HN3:=aa (fun (T:Nat->Prop) (W:World) (hW:Wr W T B (l++aj x++aj y))=>rJ T B (l++aj x++aj y) z W (by simp;omega) (by omega) hW);have hwx:IntKind.u64.wrap (x:Int)=(x:Int):=IntWalk.u64_in _ (by omega);have hwy:IntKind.u64.wrap (y:Int)=(y:Int):=IntWalk.u64_in _ (by omega);have hwz:IntKind.u64.wrap (z:Int)=(z:Int):=IntWalk.u64_in _ (by omega);clear q0 q1 q2;go_region_held3 (fun w'=>w'.cell? ⟨w.heap.size,0,none⟩=some (.int .i64 x)/\w'.cell? ⟨w.heap.size,1,none⟩=some (.int .i64 y)/\w'.cell? ⟨w.heap.size,2,none⟩=some (.int .i64 z)) (first | exact ⟨k0,k1,k2⟩ | go_keep)
    (first
        | (go_at_call 24;(with_reducible refine HN1.out.mono ?_);rintro e w2 ⟨rfl,hw2,hf2⟩;have k0:=hf2.kept Q0 hns;have k1:=hf2.kept Q1 hns;have k2:=hf2.kept Q2 hns)
        | (go_at_call 24;(with_reducible refine (HN2.out _ hw2).mono ?_);rintro e w3 ⟨rfl,hw3,hf3⟩;have k0:=hf3.kept k0 dP;have k1:=hf3.kept k1 dP;have k2:=hf3.kept k2 dP)
        | (go_at_call 24;(with_reducible refine (HN3.out _ _ hw3).mono ?_);rintro e w4 ⟨rfl,hw4,hf4⟩;have LD:=IM dP hf2.size (by simpa using hz1);have k0:=hf4.kept k0 LD;have k1:=hf4.kept k1 LD;have k2:=hf4.kept k2 LD))
   go_wp2;go_end0;have Yf:w1.drew.heap.size<=w2.heap.size:=hf2.size;refine ⟨rfl,?_,?_⟩
   ·exact z101
   ·exact (Fr.of_below (hb2.drew)).trans (((hf2.trans (hf3.trans hf4)).mono fun k hk g=>Or.inl g))
theorem G6 (S:Nat->Prop) (B:Nat) (l:Bytes) (d:Stamp) (w:World) (hl:l.length<=536870800) (h:Wr w S B l) (hSl:∀ k,S k->k<w.heap.size) :
 Calls prog 25 #[.pointer (some ⟨B,0,none⟩),.agg #[.int .i64 d.wall,.int .i64 d.count,.int .i64 d.dev]] w (NY S B (l++dG d) w):=by
 have HR0:=fun (W:World)=>lF d W
 cases h1:dM d with
 | false =>
   have HB:Hid (l++dG d=l):=by unfold Hid dG;rw [h1];simp
   rw [h1] at HR0;have HR:=aa HR0;clear HR0 h1;go_enter func25,ntmps25;go_wp2_with (go_at_call 65;refine (HR.out _).mono ?_;rintro e w1 ⟨rfl,hb⟩)
   go_end0;have hb2:=below2 ((Below.refl w.heap.size w).alloc (al _) (Obj.cells #[.int .i64 d.wall,.int .i64 d.count,.int .i64 d.dev] 23)) hb;exact ⟨rfl,by rw [HB.out];exact (h.frame (Fr.of_below (S:=fun _=>False) hb2) (fun _ _ g=>g)).mono (fun _ g=>Or.inl g),Fr.of_below hb2⟩
 | true =>
   have hd:0<=d.wall/\d.wall<=4398046511104/\0<=d.count/\d.count<=65535/\0<=d.dev/\d.dev<=63:=by
    have:=h1;unfold dM at this;simp at this;omega
   have HB:Hid (l++dG d=l++aj d.wall.toNat++aj d.count.toNat++aj d.dev.toNat):=by unfold Hid dG;rw [h1];simp
   rw [h1] at HR0;have HR:=aa HR0;obtain ⟨x,hx⟩:∃ x:Nat,d.wall=x:=⟨d.wall.toNat,by omega⟩;obtain ⟨y,hy⟩:∃ y:Nat,d.count=y:=⟨d.count.toNat,by omega⟩;obtain ⟨z,hz⟩:∃ z:Nat,d.dev=z:=⟨d.dev.toNat,by omega⟩;rw [hx,hy,hz] at hd HB;rw [hx,hy,hz] at HR ⊢;obtain ⟨e1,e2,e3,e4,e5,e6⟩:=hd;have l1:=aV x (by omega);have l2:=aV y (by omega);have l3:=aV z (by omega);clear HR0 h1 hx hy hz;go_enter func25,ntmps25;go_wp2_with (go_at_call 65;refine (HR.out _).mono ?_;rintro e w1 ⟨rfl,hb⟩;have q0:=kept hb (World.cell?_alloc_new w #[.int .i64 x,.int .i64 y,.int .i64 z] 23 0);have q1:=kept hb (World.cell?_alloc_new w #[.int .i64 x,.int .i64 y,.int .i64 z] 23 1);have q2:=kept hb (World.cell?_alloc_new w #[.int .i64 x,.int .i64 y,.int .i64 z] 23 2))
   have hz1:w.heap.size<w1.heap.size:=World.block_lt_of_cell? w1 _ q0;have hb2:=below2 ((Below.refl w.heap.size w).alloc (al _) (Obj.cells #[.int .i64 (x:Int),.int .i64 (y:Int),.int .i64 (z:Int)] 23)) hb;have hw1:Wr w1.drew S B l:=(h.frame (Fr.of_below (S:=fun _=>False) hb2) (fun _ _ g=>g)).frame (Fr.of_below (S:=fun _=>False) (Below.refl w1.heap.size w1).drew) (fun _ _ g=>g);have hns:¬ S w.heap.size:=fun g=>by have:=hSl _ g;omega
   have dP:¬ grow S w1.drew w.heap.size:=fun g=>by rcases g with g | g;exact hns g;simp at g;omega
   have Q0:w1.drew.cell? ⟨w.heap.size,0,none⟩=some (.int .i64 x):=q0;have Q1:w1.drew.cell? ⟨w.heap.size,1,none⟩=some (.int .i64 y):=q1;have Q2:w1.drew.cell? ⟨w.heap.size,2,none⟩=some (.int .i64 z):=q2;have HN1:=aa (rJ S B l x w1.drew (by omega) (by omega) hw1);have HN2:=aa (fun (W:World) (hW:Wr W (grow S w1.drew) B (l++aj x))=>rJ (grow S w1.drew) B (l++aj x) y W (by simp;omega) (by omega) hW);have HN3:=aa (fun (T:Nat->Prop) (W:World) (hW:Wr W T B (l++aj x++aj y))=>rJ T B (l++aj x++aj y) z W (by simp;omega) (by omega) hW);have hwx:IntKind.u64.wrap (x:Int)=(x:Int):=IntWalk.u64_in _ (by omega);have hwy:IntKind.u64.wrap (y:Int)=(y:Int):=IntWalk.u64_in _ (by omega);have hwz:IntKind.u64.wrap (z:Int)=(z:Int):=IntWalk.u64_in _ (by omega);clear q0 q1 q2;go_region_held3 (fun w'=>w'.cell? ⟨w.heap.size,0,none⟩=some (.int .i64 x)/\w'.cell? ⟨w.heap.size,1,none⟩=some (.int .i64 y)/\w'.cell? ⟨w.heap.size,2,none⟩=some (.int .i64 z)) (first | exact ⟨k0,k1,k2⟩ | go_keep)
    (first
        | (go_at_call 24;(with_reducible refine HN1.out.mono ?_);rintro e w2 ⟨rfl,hw2,hf2⟩;have k0:=hf2.kept Q0 hns;have k1:=hf2.kept Q1 hns;have k2:=hf2.kept Q2 hns)
        | (go_at_call 24;(with_reducible refine (HN2.out _ hw2).mono ?_);rintro e w3 ⟨rfl,hw3,hf3⟩;have k0:=hf3.kept k0 dP;have k1:=hf3.kept k1 dP;have k2:=hf3.kept k2 dP)
        | (go_at_call 24;(with_reducible refine (HN3.out _ _ hw3).mono ?_);rintro e w4 ⟨rfl,hw4,hf4⟩;have LD:=IM dP hf2.size (by simpa using hz1);have k0:=hf4.kept k0 LD;have k1:=hf4.kept k1 LD;have k2:=hf4.kept k2 LD))
   go_wp2;go_end0;have Yf:w1.drew.heap.size<=w2.heap.size:=hf2.size;refine ⟨rfl,?_,?_⟩
   ·exact z101
   ·exact (Fr.of_below (hb2.drew)).trans (((hf2.trans (hf3.trans hf4)).mono fun k hk g=>Or.inl g))
end Go.Proofs.YtffobmpeeopadaaGreat
