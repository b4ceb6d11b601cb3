/- The writer of package pack. Conditions: at most 2^29 bytes. -/
import Derived.Test.YtepkclldbkhanaaGreatEq
import Derived.OneCell
import Derived.Lib.AppendStr
import Derived.Lib.Zigzag
import Derived.IntWalk
import Derived.Test.YtepkclldbkhanaaGreatDot
import Derived.Test.YtepkclldbkhanaaGreatKit
set_option linter.unusedSimpArgs false
set_option linter.unusedVariables false
set_option linter.unnecessarySimpa false
set_option maxHeartbeats 16000000
set_option maxRecDepth 100000
open Go.Proofs.Tryz
namespace Go.Proofs.YtepkclldbkhanaaGreat
open Go.RowKit
theorem grow_grow {S:Nat→Prop} {a b:World} (h:a.heap.size≤b.heap.size):∀ k,grow (grow S a) b k→grow S a k:=by
 rintro k ((g | g) | g)
 ·exact Or.inl g
 ·exact Or.inr g
 ·exact Or.inr (by omega)
/-- block B holds a writer of l, whose memory lies in S -/
structure Wr (w:World) (S:Nat→Prop) (B:Nat) (l:Bytes):Prop where
 inS:S B
 ex:∃ v base,w.heap[B]?=some (.cells #[v] 79 (0,0))∧w.ownsRow base 5 1 v l.length (aX l)∧∀ g,v.ownBlock=some g→S g∧g≠B
theorem Wr.mono {w:World} {S T:Nat→Prop} {B:Nat} {l:Bytes} (h:Wr w S B l) (hST:∀ k,S k→T k):Wr w T B l:=by
 obtain ⟨h1,v,base,h2,h3,h4⟩:=h;exact ⟨hST _ h1,v,base,h2,h3,fun g hg=>⟨hST _ (h4 g hg).1,(h4 g hg).2⟩⟩
theorem Wr.frame {w w':World} {S T:Nat→Prop} {B:Nat} {l:Bytes} (h:Wr w S B l) (hf:Fr T w w') (hST:∀ k,S k→¬ T k):Wr w' S B l:=by
 obtain ⟨h1,v,base,h2,h3,h4⟩:=h;have hk:∀ k,k<w.heap.size→S k→w'.heap[k]?=w.heap[k]?:=fun k hk hs=>hf.block k hk (hST k hs);refine ⟨h1,v,base,?_,⟨h3.1,?_⟩,h4⟩
 ·rw [hk B (lt_of_block h2) h1];exact h2
 ·rcases h3.2 with hn | ⟨g,cap,cur,rfl,hbs,hgg,rest⟩
  ·exact .inl hn
  ·exact .inr ⟨g,cap,cur,rfl,hbs,by rw [hk g (lt_of_block hgg) (h4 g rfl).1];exact hgg,rest⟩
/-- the bytes that a row of one's own holds, read -/
theorem dJ {w:World} {base:Nat} {v:Value} {l:Bytes} (h:w.ownsRow base 5 1 v l.length (aX l)):∃ a cap,v=.slice a l.length cap∧BytesIn w a l:=by
 have hc:=fun g (hg:v.ownBlock=some g)=>h.cells hg;rcases h.2 with ⟨rfl,hn⟩ | ⟨g,cap,cur,rfl,rest⟩
 ·obtain rfl:l=[]:=List.length_eq_zero_iff.1 hn
  exact ⟨none,0,rfl,Or.inl rfl⟩
 ·refine ⟨_,cap,rfl,Or.inr ⟨g,0,rfl,fun j hj=>?_⟩⟩
  have:=hc g rfl j (.int .u8 l[j].toNat) (by simp [aX,hj]);rw [Addr.add_mid] at this;exact this
/-- behind a writer's method -/
def IZ (S:Nat→Prop) (B:Nat) (l:Bytes) (w:World) (e:Ending) (w':World):Prop :=
 e=.returned (.pointer (some ⟨B,0,none⟩))∧Wr w' (grow S w) B l∧Fr S w w'
/-- the writer's new slice is stored -/
theorem zB {w w1:World} {S:Nat→Prop} {B:Nat} {v0 v:Value} {l:Bytes} (hS:S B) (h0:w.heap[B]?=some (.cells #[v0] 79 (0,0)))
 (hb:Below w.heap.size w w1) (hown:w1.ownsRow w.heap.size 5 1 v l.length (aX l)) :
 Wr (w1.setCell ⟨B,0,none⟩ v) (grow S w) B l∧Fr S w (w1.setCell ⟨B,0,none⟩ v):=by
 have hB:=lt_of_block h0;have h1:w1.heap[B]?=some (.cells #[v0] 79 (0,0)):=by rw [hb.block B hB];exact h0
 refine ⟨⟨Or.inl hS,v,w.heap.size,one_setCell h1,ownsRow_setCell_below hown hB v,fun g hg=>?_⟩,⟨hb.os,hb.tape,hb.output,?_,?_⟩⟩
 ·have:=hown.lt g hg
  exact ⟨Or.inr this.1,by omega⟩
 ·simp only [World.setCell,Array.size_modify];exact hb.size
 ·intro k hk hs
  rw [Below.heap_setCell _ _ _ _ (fun e=>hs (by rw [e];exact hS))];exact hb.block k hk
theorem qR (S:Nat→Prop) (B:Nat) (l:Bytes) (n:Nat) (w:World) (hl:l.length≤536870912) (hn:n<18446744073709551616) (h:Wr w S B l) :
 Calls prog 30 #[.pointer (some ⟨B,0,none⟩),.int .u64 n] w (IZ S B (l++aS n) w):=by
 obtain ⟨hS,v,base,h0,hown,hg⟩:=h;obtain ⟨a,cap,rfl,hin⟩:=dJ hown;have hc:=cell_of_one h0;have hP:=Lib.hid (zx a cap l n w hl hn hin);have H0:=Lib.hid h0;clear h0 hown hg hin;go_enter func30,ntmps30;go_wp2_with (go_at_call 71;refine hP.out.mono ?_;rintro e w1 ⟨v',rfl,hown1,hb⟩;obtain ⟨a1,cap1,rfl,hin1⟩:=dJ hown1;have hcB:=kept hb hc;have hfB:=(hb.frozen (p:=⟨B,0,none⟩) (lt_of_block H0.out)).trans (free_of_one H0.out))
 go_ret;have:=zB hS H0.out hb hown1;rw [List.length_append] at this;exact ⟨rfl,this.1,this.2⟩
def fD:List Bool→Nat
 | []=>0
 | b :: r=>(if b then 1 else 0)+2 * fD r
def tJ (w:World) (b:Nat) (l:List Bool):Prop:=∀ j (h:j<l.length),w.cell? ⟨b,j,none⟩=some (.bool l[j])
theorem xM:∀ l:List Bool,fD l<2 ^ l.length
 | []=>by simp [fD]
 | b :: r=>by
   have:=xM r;simp only [fD,List.length_cons,Nat.pow_succ];split <;> omega
theorem yA:∀ (l:List Bool) (b:Bool),fD (l++[b])=fD l+(if b then 2 ^ l.length else 0)
 | [],b=>by cases b <;> simp [fD]
 | a :: r,b=>by
   simp only [List.cons_append,fD,yA r b,List.length_cons,Nat.pow_succ]
   cases b <;> simp <;> omega
theorem NF:∀ k:Fin 8,∀ c:Fin 256,c.val<2 ^ k.val→bits BinOp.or IntKind.u8 ((c.val:Nat):Int) (2 ^ k.val % 256)=((c.val+2 ^ k.val:Nat):Int):=by decide +kernel
theorem UO (k c:Nat) (hk:k<8) (hc:c<2 ^ k):bits BinOp.or IntKind.u8 (c:Int) (2 ^ k % 256)=((c+2 ^ k:Nat):Int):=by
 have h2:2 ^ k≤2 ^ 7:=Nat.pow_le_pow_right (by omega) (by omega);exact NF ⟨k,hk⟩ ⟨c,by omega⟩ hc
theorem OT {w w2:World} {S:Nat→Prop} {B:Nat} {v v0:Value} {o:Obj} {t:TypeId} (h0:w.heap[B]?=some (.cells #[v0] t (0,0)))
 (hg:∀ g,v.ownBlock=some g→S g∧g≠B) (hgrow:(w.alloc o).grownBy w2 v.ownBlock):Fr S w w2∧w2.heap[B]?=some (.cells #[v0] t (0,0)):=by
 have hb:∀ k,k<w.heap.size→some k≠v.ownBlock→w2.heap[k]?=w.heap[k]?:=fun k hk hne =>
  (hgrow.block k (by simp;omega) hne).trans (Below.heap_alloc w o k hk)
 refine ⟨⟨hgrow.os,hgrow.tape,hgrow.output,?_,fun k hk hs=>hb k hk (fun e=>hs (hg k e.symm).1)⟩,?_⟩
 ·have:=hgrow.size;simp at this;omega
 ·rw [hb B (lt_of_block h0) (fun e=>(hg B e.symm).2 rfl)];exact h0
theorem JR {w:World} {base:Nat} {e:TypeId} {size:Nat} {v:Value} {n:Nat} {xs:List Value} (h:w.ownsRow base e size v n xs):∃ b,b≤w.heap.size∧w.ownsRow b e size v n xs:=by
 rcases h.2 with ⟨rfl,hn⟩ | ⟨g,cap,cur,rfl,hbs,hgg,rest⟩
 ·exact ⟨0,Nat.zero_le _,h.1,.inl ⟨rfl,hn⟩⟩
 ·exact ⟨g,Nat.le_of_lt (lt_of_block hgg),h.1,.inr ⟨g,cap,cur,rfl,Nat.le_refl _,hgg,rest⟩⟩
theorem MI {w w2:World} {S:Nat→Prop} {B base n:Nat} {v0 v:Value} {l:Bytes} (hS:S B) (h2:w2.heap[B]?=some (.cells #[v0] 79 (0,0))) (hf:Fr S w w2)
 (hn:n=l.length) (hown:w2.ownsRow base 5 1 v n (aX l)) (hg:∀ g,v.ownBlock=some g→grow S w g∧g≠B) :
 Wr (w2.setCell ⟨B,0,none⟩ v) (grow S w) B l∧Fr S w (w2.setCell ⟨B,0,none⟩ v):=by
 subst hn;refine ⟨⟨Or.inl hS,v,base,one_setCell h2,ownsRow_setCell_other hown (fun e=>(hg B e).2 rfl) v,hg⟩,⟨hf.os,hf.tape,hf.output,?_,?_⟩⟩
 ·simp only [World.setCell,Array.size_modify];exact hf.size
 ·intro k hk hs
  rw [Below.heap_setCell _ _ _ _ (fun e=>hs (by rw [e];exact hS))];exact hf.block k hk hs
theorem O1 (S:Nat→Prop) (B:Nat) (l:Bytes) (A:Nat) (fs:List Bool) (w:World) (hl:l.length≤536870912) (hf:fs.length≤8) (h:Wr w S B l) (hb:tJ w A fs) :
 Calls prog 116 #[.pointer (some ⟨B,0,none⟩),.slice (some ⟨A,0,none⟩) fs.length fs.length] w (IZ S B (l++[UInt8.ofNat (fD fs)]) w):=by
 obtain ⟨i0,hi,hz0,hz1,hz2⟩:=info_parts Tryz.infoByte;obtain ⟨hS,v,base0,h0,hown0,hg⟩:=h;obtain ⟨base,hbase,hown⟩:=JR hown0;obtain ⟨a,cap,rfl,hin⟩:=dJ hown0;have hc:=cell_of_one h0;have hfz:=free_of_one h0;have H0:=Lib.hid h0;have HG:=Lib.hid hg;clear h0 hown0 hg hin;go_enter func116,ntmps116;go_wp2;go_loop [5,6,7,12] (fun c _ _ i=>∃ k:Nat,k≤fs.length∧i=.int .i64 k∧c=.int .u8 (fD (fs.take k))) (fun _ _ _ i=>fs.length - (intOf i).toNat)
 case atStart=>exact ⟨0,Nat.zero_le _,rfl,by simp [fD]⟩
 case round =>
  obtain ⟨k,hk,rfl,rfl⟩:=hrel;by_cases hlt:k<fs.length
  ·have hcell:=hb k hlt
   have hk8:(k:Int)<8:=by omega
   have hlt2:=xM (fs.take k);rw [List.length_take,Nat.min_eq_left hk] at hlt2;have hsn:=yA (fs.take k) fs[k];rw [← List.take_succ_eq_append_getElem hlt,List.length_take,Nat.min_eq_left hk] at hsn;have hor:=UO k (fD (fs.take k)) (by omega) hlt2
   cases hq:fs[k] with
   | false =>
     rw [hq] at hcell hsn;have HS:=Lib.hid hsn;clear hsn hor hlt2;go_wp2;go_round
     case rel=>exact ⟨k+1,by omega,by go_num,by rw [HS.out];simp⟩
     case measure => exact z65
   | true =>
     rw [hq] at hcell hsn;have HS:=Lib.hid hsn;have HO:=Lib.hid hor;clear hsn hor hlt2;go_wp2;go_round
     case rel=>exact ⟨k+1,by omega,by go_num,by rw [HO.out,HS.out];simp⟩
     case measure => exact z65
  ·have htk:Hid (fs.take k=fs):=List.take_of_length_le (by omega)
   rw [htk.out];have hfl:fD fs<256:=by have h9:=xM fs;have h2:2 ^ fs.length≤2 ^ 8:=Nat.pow_le_pow_right (by omega) hf;omega
   go_wp2_with (at_builtin;go_loud (refine wpList_append_own_at _ rfl _ _ 22 rfl base 5 i0 (.int .u8 0) 1 1 underlying22 hi hz0 hz1 hz2 rfl (by decide) _ _ _ rfl (hown.alloc _) ⟨w.heap.size,0,none⟩ 1 1 [.int .u8 (fD fs:Int)] rfl rfl (cell_one_new _ _ _) (by simp [Value.oneCell']) (by unfold maxLen;omega) (by omega) (by simp;omega) ?_))
   intro v' w2 hown2 hgrow _ hat;obtain ⟨hF,hB2⟩:=OT H0.out HG.out hgrow;rw [show (l.length+1)=(l++[UInt8.ofNat (fD fs)]).length by simp,show aX l++[Value.int .u8 (fD fs:Int)]=aX (l++[UInt8.ofNat (fD fs)]) by
        rw [eQ];congr 1;simp only [aX,List.map_cons,List.map_nil,UInt8.toNat_ofNat'];congr 3;omega] at hown2
   obtain ⟨a1,cap1,rfl,hin1⟩:=dJ hown2;have hcB:=cell_of_one hB2;have hfB:=free_of_one hB2;have hgg:Hid (∀ g,(Value.slice a1 (l++[UInt8.ofNat (fD fs)]).length cap1).ownBlock=some g→grow S w g∧g≠B):=fun g e=>by
        have hBl:=lt_of_block H0.out;rcases hat with hat | hat
        ·rw [hat] at e;exact ⟨Or.inl (HG.out g e).1,(HG.out g e).2⟩
        ·rw [hat] at e
         have:g=w.heap.size+1:=by simpa using e.symm
         exact ⟨Or.inr (by omega),by omega⟩
   have hfin:=Lib.hid (MI hS hB2 hF rfl hown2 hgg.out);clear hat hgrow hown2 hin1;go_wp2;go_ret;have h9:=hfin.out;simp only [List.length_append,List.length_cons,List.length_nil,Nat.zero_add] at h9;exact ⟨rfl,h9.1,h9.2⟩
theorem strCells_eq (s:ByteArray):Lib.strCells s=aX (bl s):=rfl
def gG (l:Bytes):Bytes:=aS l.length++l
theorem QD (S:Nat→Prop) (B:Nat) (l:Bytes) (s:ByteArray) (w:World) (hl:l.length≤268435456) (hs:s.size≤268435456) (h:Wr w S B l) :
 Calls prog 32 #[.pointer (some ⟨B,0,none⟩),.string s] w (IZ S B (l++gG (bl s)) w):=by
 obtain ⟨i0,hi,hz0,hz1,hz2⟩:=info_parts Tryz.infoByte;obtain ⟨hS,v,base,h0,hown,hg⟩:=h;obtain ⟨a,cap,rfl,hin⟩:=dJ hown;have hc:=cell_of_one h0;have l1:=bF s.size (by omega);have hP:=Lib.hid (zx a cap l s.size w (by omega) (by omega) hin);have H0:=Lib.hid h0;clear h0 hown hg hin;go_enter func32,ntmps32;go_wp2_with (first
  | (go_at_call 71;(with_reducible refine hP.out.mono ?_);rintro e w1 ⟨v',rfl,hown1,hb⟩;have hzz:=hb.size)
  | (at_builtin;go_loud (refine Lib.wpList_append_own_string _ rfl _ _ 22 9 rfl w.heap.size 5 i0 underlying22 underlying9 hi hz0 hz1 hz2 _ _ _ rfl hown1 s rfl (by unfold maxLen;simp;omega) (by simp;omega) (by omega) ?_)))
 intro v2 w2 hown2 hgrow _;have hb2:=hb.grown hgrow hzz (fun k hk=>(hown1.lt k hk).1);rw [show l.length+(aS s.size).length+s.size=(l++gG (bl s)).length by simp [gG,aH];omega,show aX (l++aS s.size)++Lib.strCells s=aX (l++gG (bl s)) by
  rw [strCells_eq,← eQ,List.append_assoc];simp [gG,aH]] at hown2
 obtain ⟨a1,cap1,rfl,hin1⟩:=dJ hown2;have hcB:=kept hb2 hc;have hfB:=(hb2.frozen (p:=⟨B,0,none⟩) (lt_of_block H0.out)).trans (free_of_one H0.out);have hfin:=Lib.hid (zB hS H0.out hb2 hown2);clear hgrow hown2 hin1;go_wp2;go_ret;have h9:=hfin.out;rw [List.length_append] at h9;exact ⟨rfl,h9.1,h9.2⟩
def yP (n:Int):Bytes:=aS (Lib.zigzag n)
theorem Qn (x:Int) (h0:0≤x) (h1:x≤4398046511104):bits BinOp.xor IntKind.u64 (IntKind.u64.wrap (IntKind.u64.wrap x * 2)) (IntKind.u64.wrap (x / 9223372036854775808))=((Lib.zigzag x:Nat):Int):=by
 have e1:IntKind.u64.wrap (IntKind.u64.wrap x * 2)=(((2 * x).toNat:Nat):Int):=by
  rw [IntKind.wrap_u64,IntKind.wrap_u64];omega
 have e2:IntKind.u64.wrap (x / 9223372036854775808)=((0:Nat):Int):=by
  rw [IntKind.wrap_u64];omega
 rw [e1,e2,bits_xor_u64_nat _ _ (by omega) (by decide),Nat.xor_zero];unfold Lib.zigzag;rw [if_pos h0]
theorem Qo (x:Int) (h0 : -4398046511104≤x) (h1:x<0):bits BinOp.xor IntKind.u64 (IntKind.u64.wrap (IntKind.u64.wrap x * 2)) (IntKind.u64.wrap (x / 9223372036854775808))=((Lib.zigzag x:Nat):Int):=by
 have e1:IntKind.u64.wrap (IntKind.u64.wrap x * 2)=(((2 * x+18446744073709551616).toNat:Nat):Int):=by
  rw [IntKind.wrap_u64,IntKind.wrap_u64];omega
 have e2:IntKind.u64.wrap (x / 9223372036854775808)=((2 ^ 64 - 1:Nat):Int):=by
  rw [IntKind.wrap_u64];omega
 rw [e1,e2,bits_xor_u64_nat _ _ (by omega) (by decide),Nat.xor_comm,Lib.xor_ones64 _ (by omega)];unfold Lib.zigzag;rw [if_neg (by omega)];omega
theorem RU (x:Int) (h0 : -4398046511104≤x) (h1:x≤4398046511104):bits BinOp.xor IntKind.u64 (IntKind.u64.wrap (IntKind.u64.wrap x * 2)) (IntKind.u64.wrap (x / 9223372036854775808))=((Lib.zigzag x:Nat):Int):=by
 by_cases h:0≤x
 ·exact Qn x h h1
 ·exact Qo x h0 (by omega)
theorem QQ (n:Int) (w:World) (h0 : -4398046511104≤n) (h1:n≤4398046511104):Calls prog 178 #[.int .i64 n] w (fun e w'=>e=.returned (.int .u64 ((Lib.zigzag n:Nat):Int))∧w=w'):=by
 have HE:=Lib.hid (RU n h0 h1);generalize Lib.zigzag n=z at HE ⊢;go_enter func178,ntmps178;go_wp2;go_ret;exact ⟨by rw [HE.out];rfl,rfl⟩
theorem O5 (n:Int) (h0 : -4398046511104≤n) (h1:n≤4398046511104):Lib.zigzag n<17592186044416:=by
 unfold Lib.zigzag;split <;> omega
theorem Lh (a:Option Addr) (cap:Nat) (l:Bytes) (n:Int) (w:World) (hl:l.length≤536870912) (h0 : -4398046511104≤n) (h1:n≤4398046511104) (h:BytesIn w a l) :
 Calls prog 152 #[.slice a l.length cap,.int .i64 n] w (lW (l++yP n) w):=by
 have hF:=Lib.hid (QQ n w h0 h1);have hz:=O5 n h0 h1;have hP:=Lib.hid (zx a cap l (Lib.zigzag n) w hl (by omega) h);have HE:Hid (yP n=aS (Lib.zigzag n)):=rfl;generalize yP n=zb at HE ⊢;generalize Lib.zigzag n=z at hF hz hP HE;clear h;go_enter func152,ntmps152;go_wp2_with (first
  | (go_at_call 178;(with_reducible refine hF.out.mono ?_);rintro e w1 ⟨rfl,rfl⟩)
  | (go_at_call 71;(with_reducible refine hP.out.mono ?_);rintro e w1 ⟨v',rfl,hown1,hb⟩))
 go_ret;exact ⟨_,rfl,by rw [HE.out];exact hown1,hb⟩
theorem SL (S:Nat→Prop) (B:Nat) (l:Bytes) (n:Int) (w:World) (hl:l.length≤536870912) (h0 : -4398046511104≤n) (h1:n≤4398046511104) (h:Wr w S B l) :
 Calls prog 117 #[.pointer (some ⟨B,0,none⟩),.int .i64 n] w (IZ S B (l++yP n) w):=by
 obtain ⟨hS,v,base,h0',hown,hg⟩:=h;obtain ⟨a,cap,rfl,hin⟩:=dJ hown;have hc:=cell_of_one h0';have hP:=Lib.hid (Lh a cap l n w hl h0 h1 hin);have H0:=Lib.hid h0';clear h0' hown hg hin;go_enter func117,ntmps117;go_wp2_with (go_at_call 152;refine hP.out.mono ?_;rintro e w1 ⟨v',rfl,hown1,hb⟩;obtain ⟨a1,cap1,rfl,hin1⟩:=dJ hown1;have hcB:=kept hb hc;have hfB:=(hb.frozen (p:=⟨B,0,none⟩) (lt_of_block H0.out)).trans (free_of_one H0.out))
 go_ret;have:=zB hS H0.out hb hown1;rw [List.length_append] at this;exact ⟨rfl,this.1,this.2⟩
theorem GV {S:Nat→Prop} {b:Nat} {w w2:World} (h:¬ S b) (hs:w.heap.size≤w2.heap.size) (hb:b<w.heap.size):¬ grow S w2 b:=fun g=>by
 rcases g with g | g
 ·exact h g
 ·omega
def Me (S:Nat→Prop) (B:Nat) (l:Bytes) (w:World) (e:Ending) (w':World):Prop :=
 e=.returned (.tuple #[])∧Wr w' (grow S w) B l∧Fr S w w'
theorem KY (S:Nat→Prop) (B:Nat) (l:Bytes) (w:World) (hl:l.length≤536870912) (h:Wr w S B l) :
 Calls prog 34 #[.pointer (some ⟨B,0,none⟩)] w (lW l w):=by
 obtain ⟨hS,v,base,h0,hown,hg⟩:=h;obtain ⟨a,cap,rfl,hin⟩:=dJ hown;have hc:=cell_of_one h0;have hP:=Lib.hid (lg a cap l w (by omega) hin);have H0:=Lib.hid h0;clear h0 hown hg hin;go_enter func34,ntmps34;go_wp2_with (go_at_call 75;refine hP.out.mono ?_;rintro e w1 ⟨v',rfl,hown1,hb⟩)
 go_ret;exact ⟨_,rfl,hown1,hb⟩
def qc (d:Dot):Bytes:=if bJ d=true then aS d.a.dev.toNat++aS d.a.inc.toNat++aS d.seq.toNat else []
def iP (s:Stamp):Bytes:=if fQ s=true then aS s.wall.toNat++aS s.count.toNat++aS s.dev.toNat else []
theorem z94 {p : Prop} (h : p := by
 rw [HB.out]
 refine hw4.mono fun k g => ?_
 have g1 := grow_grow hf3.size k g
 have g2 := grow_grow hf2.size k g1
 rcases g2 with g2 | g2
 ·exact Or.inl g2
 ·exact Or.inr (by simp at g2; omega)) : p := h
theorem KF (S:Nat→Prop) (B:Nat) (l:Bytes) (d:Dot) (w:World) (hl:l.length≤536870800) (h:Wr w S B l) (hSl:∀ k,S k→k<w.heap.size) :
 Calls prog 69 #[.pointer (some ⟨B,0,none⟩),.agg #[.int .i64 d.a.dev,.int .i64 d.a.inc,.int .i64 d.seq]] w (Me S B (l++qc d) w):=by
 have HR0:=fun (W:World)=>ja d W
 cases h1:bJ d with
 | false =>
   have HB:Hid (l++qc d=l):=by unfold Hid qc;rw [h1];simp
   rw [h1] at HR0;have HR:=Lib.hid HR0;clear HR0 h1;go_enter func69,ntmps69;go_wp2_with (go_at_call 97;refine (HR.out _).mono ?_;rintro e w1 ⟨rfl,hb⟩)
   go_end0;have hb2:=below2 ((Below.refl w.heap.size w).alloc (Nat.le_refl _) (Obj.cells #[.int .i64 d.a.dev,.int .i64 d.a.inc,.int .i64 d.seq] 121)) hb;exact ⟨rfl,by rw [HB.out];exact (h.frame (Fr.of_below (S:=fun _=>False) hb2) (fun _ _ g=>g)).mono (fun _ g=>Or.inl g),Fr.of_below hb2⟩
 | true =>
   have hd:0≤d.a.dev∧d.a.dev<64∧1≤d.a.inc∧d.a.inc≤1048576∧1≤d.seq∧d.seq≤4294967296:=by
    have:=h1;unfold bJ jk at this;simp at this;omega
   have HB:Hid (l++qc d=l++aS d.a.dev.toNat++aS d.a.inc.toNat++aS d.seq.toNat):=by unfold Hid qc;rw [h1];simp
   rw [h1] at HR0;have HR:=Lib.hid HR0;obtain ⟨x,hx⟩:∃ x:Nat,d.a.dev=x:=⟨d.a.dev.toNat,by omega⟩;obtain ⟨y,hy⟩:∃ y:Nat,d.a.inc=y:=⟨d.a.inc.toNat,by omega⟩;obtain ⟨z,hz⟩:∃ z:Nat,d.seq=z:=⟨d.seq.toNat,by omega⟩;rw [hx,hy,hz] at hd HB;rw [hx,hy,hz] at HR ⊢;obtain ⟨e1,e2,e3,e4,e5,e6⟩:=hd;have l1:=bF x (by omega);have l2:=bF y (by omega);have l3:=bF z (by omega);clear HR0 h1 hx hy hz;go_enter func69,ntmps69;go_wp2_with (go_at_call 97;refine (HR.out _).mono ?_;rintro e w1 ⟨rfl,hb⟩;have q0:=kept hb (World.cell?_alloc_new w #[.int .i64 x,.int .i64 y,.int .i64 z] 121 0);have q1:=kept hb (World.cell?_alloc_new w #[.int .i64 x,.int .i64 y,.int .i64 z] 121 1);have q2:=kept hb (World.cell?_alloc_new w #[.int .i64 x,.int .i64 y,.int .i64 z] 121 2))
   have hz1:w.heap.size<w1.heap.size:=World.block_lt_of_cell? w1 _ q0;have hb2:=below2 ((Below.refl w.heap.size w).alloc (Nat.le_refl _) (Obj.cells #[.int .i64 (x:Int),.int .i64 (y:Int),.int .i64 (z:Int)] 121)) hb;have hw1:Wr w1.drew S B l:=(h.frame (Fr.of_below (S:=fun _=>False) hb2) (fun _ _ g=>g)).frame (Fr.of_below (S:=fun _=>False) (Below.refl w1.heap.size w1).drew) (fun _ _ g=>g);have hns:¬ S w.heap.size:=fun g=>by have:=hSl _ g;omega
   have dH:¬ grow S w1.drew w.heap.size:=fun g=>by rcases g with g | g;exact hns g;simp at g;omega
   have Q0:w1.drew.cell? ⟨w.heap.size,0,none⟩=some (.int .i64 x):=q0;have Q1:w1.drew.cell? ⟨w.heap.size,1,none⟩=some (.int .i64 y):=q1;have Q2:w1.drew.cell? ⟨w.heap.size,2,none⟩=some (.int .i64 z):=q2;have HN1:=Lib.hid (qR S B l x w1.drew (by omega) (by omega) hw1);have HN2:=Lib.hid (fun (W:World) (hW:Wr W (grow S w1.drew) B (l++aS x))=>qR (grow S w1.drew) B (l++aS x) y W (by simp;omega) (by omega) hW);have HN3:=Lib.hid (fun (T:Nat→Prop) (W:World) (hW:Wr W T B (l++aS x++aS y))=>qR T B (l++aS x++aS y) z W (by simp;omega) (by omega) hW);have hwx:IntKind.u64.wrap (x:Int)=(x:Int):=IntWalk.u64_in _ (by omega);have hwy:IntKind.u64.wrap (y:Int)=(y:Int):=IntWalk.u64_in _ (by omega);have hwz:IntKind.u64.wrap (z:Int)=(z:Int):=IntWalk.u64_in _ (by omega);clear q0 q1 q2;go_region_held3 (fun w'=>w'.cell? ⟨w.heap.size,0,none⟩=some (.int .i64 x)∧w'.cell? ⟨w.heap.size,1,none⟩=some (.int .i64 y)∧w'.cell? ⟨w.heap.size,2,none⟩=some (.int .i64 z)) (first | exact ⟨k0,k1,k2⟩ | go_keep)
    (first
        | (go_at_call 30;(with_reducible refine HN1.out.mono ?_);rintro e w2 ⟨rfl,hw2,hf2⟩;have k0:=hf2.kept Q0 hns;have k1:=hf2.kept Q1 hns;have k2:=hf2.kept Q2 hns)
        | (go_at_call 30;(with_reducible refine (HN2.out _ hw2).mono ?_);rintro e w3 ⟨rfl,hw3,hf3⟩;have k0:=hf3.kept k0 dH;have k1:=hf3.kept k1 dH;have k2:=hf3.kept k2 dH)
        | (go_at_call 30;(with_reducible refine (HN3.out _ _ hw3).mono ?_);rintro e w4 ⟨rfl,hw4,hf4⟩;have J9:=GV dH hf2.size (by simpa using hz1);have k0:=hf4.kept k0 J9;have k1:=hf4.kept k1 J9;have k2:=hf4.kept k2 J9))
   go_wp2;go_end0;have WM:w1.drew.heap.size≤w2.heap.size:=hf2.size;refine ⟨rfl,?_,?_⟩
   ·exact z94
   ·exact (Fr.of_below (hb2.drew)).trans (((hf2.trans (hf3.trans hf4)).mono fun k hk g=>Or.inl g))
theorem FU (S:Nat→Prop) (B:Nat) (l:Bytes) (d:Stamp) (w:World) (hl:l.length≤536870800) (h:Wr w S B l) (hSl:∀ k,S k→k<w.heap.size) :
 Calls prog 31 #[.pointer (some ⟨B,0,none⟩),.agg #[.int .i64 d.wall,.int .i64 d.count,.int .i64 d.dev]] w (Me S B (l++iP d) w):=by
 have HR0:=fun (W:World)=>oq d W
 cases h1:fQ d with
 | false =>
   have HB:Hid (l++iP d=l):=by unfold Hid iP;rw [h1];simp
   rw [h1] at HR0;have HR:=Lib.hid HR0;clear HR0 h1;go_enter func31,ntmps31;go_wp2_with (go_at_call 64;refine (HR.out _).mono ?_;rintro e w1 ⟨rfl,hb⟩)
   go_end0;have hb2:=below2 ((Below.refl w.heap.size w).alloc (Nat.le_refl _) (Obj.cells #[.int .i64 d.wall,.int .i64 d.count,.int .i64 d.dev] 25)) hb;exact ⟨rfl,by rw [HB.out];exact (h.frame (Fr.of_below (S:=fun _=>False) hb2) (fun _ _ g=>g)).mono (fun _ g=>Or.inl g),Fr.of_below hb2⟩
 | true =>
   have hd:0≤d.wall∧d.wall≤4398046511104∧0≤d.count∧d.count≤65535∧0≤d.dev∧d.dev≤63:=by
    have:=h1;unfold fQ at this;simp at this;omega
   have HB:Hid (l++iP d=l++aS d.wall.toNat++aS d.count.toNat++aS d.dev.toNat):=by unfold Hid iP;rw [h1];simp
   rw [h1] at HR0;have HR:=Lib.hid HR0;obtain ⟨x,hx⟩:∃ x:Nat,d.wall=x:=⟨d.wall.toNat,by omega⟩;obtain ⟨y,hy⟩:∃ y:Nat,d.count=y:=⟨d.count.toNat,by omega⟩;obtain ⟨z,hz⟩:∃ z:Nat,d.dev=z:=⟨d.dev.toNat,by omega⟩;rw [hx,hy,hz] at hd HB;rw [hx,hy,hz] at HR ⊢;obtain ⟨e1,e2,e3,e4,e5,e6⟩:=hd;have l1:=bF x (by omega);have l2:=bF y (by omega);have l3:=bF z (by omega);clear HR0 h1 hx hy hz;go_enter func31,ntmps31;go_wp2_with (go_at_call 64;refine (HR.out _).mono ?_;rintro e w1 ⟨rfl,hb⟩;have q0:=kept hb (World.cell?_alloc_new w #[.int .i64 x,.int .i64 y,.int .i64 z] 25 0);have q1:=kept hb (World.cell?_alloc_new w #[.int .i64 x,.int .i64 y,.int .i64 z] 25 1);have q2:=kept hb (World.cell?_alloc_new w #[.int .i64 x,.int .i64 y,.int .i64 z] 25 2))
   have hz1:w.heap.size<w1.heap.size:=World.block_lt_of_cell? w1 _ q0;have hb2:=below2 ((Below.refl w.heap.size w).alloc (Nat.le_refl _) (Obj.cells #[.int .i64 (x:Int),.int .i64 (y:Int),.int .i64 (z:Int)] 25)) hb;have hw1:Wr w1.drew S B l:=(h.frame (Fr.of_below (S:=fun _=>False) hb2) (fun _ _ g=>g)).frame (Fr.of_below (S:=fun _=>False) (Below.refl w1.heap.size w1).drew) (fun _ _ g=>g);have hns:¬ S w.heap.size:=fun g=>by have:=hSl _ g;omega
   have dH:¬ grow S w1.drew w.heap.size:=fun g=>by rcases g with g | g;exact hns g;simp at g;omega
   have Q0:w1.drew.cell? ⟨w.heap.size,0,none⟩=some (.int .i64 x):=q0;have Q1:w1.drew.cell? ⟨w.heap.size,1,none⟩=some (.int .i64 y):=q1;have Q2:w1.drew.cell? ⟨w.heap.size,2,none⟩=some (.int .i64 z):=q2;have HN1:=Lib.hid (qR S B l x w1.drew (by omega) (by omega) hw1);have HN2:=Lib.hid (fun (W:World) (hW:Wr W (grow S w1.drew) B (l++aS x))=>qR (grow S w1.drew) B (l++aS x) y W (by simp;omega) (by omega) hW);have HN3:=Lib.hid (fun (T:Nat→Prop) (W:World) (hW:Wr W T B (l++aS x++aS y))=>qR T B (l++aS x++aS y) z W (by simp;omega) (by omega) hW);have hwx:IntKind.u64.wrap (x:Int)=(x:Int):=IntWalk.u64_in _ (by omega);have hwy:IntKind.u64.wrap (y:Int)=(y:Int):=IntWalk.u64_in _ (by omega);have hwz:IntKind.u64.wrap (z:Int)=(z:Int):=IntWalk.u64_in _ (by omega);clear q0 q1 q2;go_region_held3 (fun w'=>w'.cell? ⟨w.heap.size,0,none⟩=some (.int .i64 x)∧w'.cell? ⟨w.heap.size,1,none⟩=some (.int .i64 y)∧w'.cell? ⟨w.heap.size,2,none⟩=some (.int .i64 z)) (first | exact ⟨k0,k1,k2⟩ | go_keep)
    (first
        | (go_at_call 30;(with_reducible refine HN1.out.mono ?_);rintro e w2 ⟨rfl,hw2,hf2⟩;have k0:=hf2.kept Q0 hns;have k1:=hf2.kept Q1 hns;have k2:=hf2.kept Q2 hns)
        | (go_at_call 30;(with_reducible refine (HN2.out _ hw2).mono ?_);rintro e w3 ⟨rfl,hw3,hf3⟩;have k0:=hf3.kept k0 dH;have k1:=hf3.kept k1 dH;have k2:=hf3.kept k2 dH)
        | (go_at_call 30;(with_reducible refine (HN3.out _ _ hw3).mono ?_);rintro e w4 ⟨rfl,hw4,hf4⟩;have J9:=GV dH hf2.size (by simpa using hz1);have k0:=hf4.kept k0 J9;have k1:=hf4.kept k1 J9;have k2:=hf4.kept k2 J9))
   go_wp2;go_end0;have WM:w1.drew.heap.size≤w2.heap.size:=hf2.size;refine ⟨rfl,?_,?_⟩
   ·exact z94
   ·exact (Fr.of_below (hb2.drew)).trans (((hf2.trans (hf3.trans hf4)).mono fun k hk g=>Or.inl g))
/-- S, what lies in w alone -/
def tight (S:Nat→Prop) (w:World):Nat→Prop:=fun k=>S k∧k<w.heap.size
theorem Wr.tight {w:World} {S:Nat→Prop} {B:Nat} {l:Bytes} (h:Wr w S B l):Wr w (tight S w) B l:=by
 obtain ⟨h1,v,base,h2,h3,h4⟩:=h;refine ⟨⟨h1,lt_of_block h2⟩,v,base,h2,h3,fun g hg=>⟨⟨(h4 g hg).1,?_⟩,(h4 g hg).2⟩⟩;rcases h3.2 with ⟨hv,hn⟩ | ⟨g',cap,cur,hv,hbs,hgg,rest⟩
 ·rw [hv] at hg;cases hg
 ·rw [hv] at hg
  obtain rfl:g'=g:=by simpa [Value.ownBlock] using hg
  exact lt_of_block hgg
/-- since w0: the writer in block B has come to hold l; nothing of w0 has turned but S -/
structure Hold (S:Nat→Prop) (w0:World) (B:Nat) (w:World) (l:Bytes):Prop where
 wr:Wr w (grow S w0) B l
 fr:Fr S w0 w
variable {S:Nat→Prop} {w0 w w2:World} {B:Nat} {l m:Bytes}
theorem Hold.start (h:Wr w S B l):Hold S w B w l:=⟨h.mono fun _ g=>Or.inl g,Fr.refl _ _⟩
theorem Hold.after (h:Hold S w0 B w l) (hw:Wr w2 (grow (Proofs.YtepkclldbkhanaaGreat.tight (grow S w0) w) w) B m) (hf:Fr (Proofs.YtepkclldbkhanaaGreat.tight (grow S w0) w) w w2):Hold S w0 B w2 m:=by
 refine ⟨hw.mono fun k g=>?_,h.fr.trans (hf.mono fun k _ g=>g.1)⟩;rcases g with g | g
 ·exact g.1
 ·exact Or.inr (Nat.le_trans h.fr.size g)
theorem Hold.below (h:Hold S w0 B w l) (hb:Below w.heap.size w w2):Hold S w0 B w2 l :=
 ⟨h.wr.frame (Fr.of_below (S:=fun _=>False) hb) (fun _ _ g=>g),h.fr.trans ((Fr.of_below (S:=fun _=>False) hb).mono fun _ _ g=>g.elim)⟩
theorem Hold.drew (h:Hold S w0 B w l):Hold S w0 B w.drew l:=h.below (Below.refl w.heap.size w).drew
theorem Hold.kept (h:Hold S w0 B w l) {p:Addr} {v:Value} (hc:w0.cell? p=some v) (hs:¬ S p.block):w.cell? p=some v:=h.fr.kept hc hs
theorem Hold.range (h:Hold S w0 B w l) {b o:Nat} {cs:List Value} (hc:w0.rangeAt b o cs) (hs:¬ S b):w.rangeAt b o cs:=fun j v hv=>h.kept (hc j v hv) hs
def qQ (S:Nat→Prop) (w0:World) (B:Nat) (m:Bytes) (e:Ending) (w':World):Prop:=e=.returned (.pointer (some ⟨B,0,none⟩))∧Hold S w0 B w' m
theorem Hold.retWr (h:Hold S w0 B w l) {e:Ending} (k:IZ (Proofs.YtepkclldbkhanaaGreat.tight (grow S w0) w) B m w e w2):qQ S w0 B m e w2:=⟨k.1,h.after k.2.1 k.2.2⟩
theorem yO (h:Hold S w0 B w l) (n:Nat) (hl:l.length≤268435456) (hn:n<18446744073709551616) :
 Calls prog 30 #[.pointer (some ⟨B,0,none⟩),.int .u64 n] w (qQ S w0 B (l++aS n)) :=
 (qR _ B l n w (by omega) hn h.wr.tight).mono fun _ _ k=>h.retWr k
theorem WE (h:Hold S w0 B w l) (n:Int) (hl:l.length≤268435456) (h0 : -4398046511104≤n) (h1:n≤4398046511104) :
 Calls prog 117 #[.pointer (some ⟨B,0,none⟩),.int .i64 n] w (qQ S w0 B (l++yP n)) :=
 (SL _ B l n w (by omega) h0 h1 h.wr.tight).mono fun _ _ k=>h.retWr k
theorem CB (h:Hold S w0 B w l) (s:ByteArray) (hl:l.length≤268435456) (hs:s.size≤268435456) :
 Calls prog 32 #[.pointer (some ⟨B,0,none⟩),.string s] w (qQ S w0 B (l++gG (bl s))) :=
 (QD _ B l s w hl hs h.wr.tight).mono fun _ _ k=>h.retWr k
theorem SS (h:Hold S w0 B w l) (A:Nat) (fs:List Bool) (hl:l.length≤268435456) (hf:fs.length≤8) (hb:tJ w A fs) :
 Calls prog 116 #[.pointer (some ⟨B,0,none⟩),.slice (some ⟨A,0,none⟩) fs.length fs.length] w (qQ S w0 B (l++[UInt8.ofNat (fD fs)])) :=
 (O1 _ B l A fs w (by omega) hf h.wr.tight hb).mono fun _ _ k=>h.retWr k
def wV (S:Nat→Prop) (w0:World) (B:Nat) (m:Bytes) (e:Ending) (w':World):Prop:=e=.returned (.tuple #[])∧Hold S w0 B w' m
theorem wJ (h:Hold S w0 B w l) (d:Dot) (hl:l.length≤268435456) :
 Calls prog 69 #[.pointer (some ⟨B,0,none⟩),.agg #[.int .i64 d.a.dev,.int .i64 d.a.inc,.int .i64 d.seq]] w (wV S w0 B (l++qc d)) :=
 (KF _ B l d w (by omega) h.wr.tight (fun _ g=>g.2)).mono fun _ _ k=>⟨k.1,h.after k.2.1 k.2.2⟩
theorem Cb (h:Hold S w0 B w l) (d:Stamp) (hl:l.length≤268435456) :
 Calls prog 31 #[.pointer (some ⟨B,0,none⟩),.agg #[.int .i64 d.wall,.int .i64 d.count,.int .i64 d.dev]] w (wV S w0 B (l++iP d)) :=
 (FU _ B l d w (by omega) h.wr.tight (fun _ g=>g.2)).mono fun _ _ k=>⟨k.1,h.after k.2.1 k.2.2⟩
theorem IY (h:Hold S w0 B w l) (hl:l.length≤268435456):Calls prog 34 #[.pointer (some ⟨B,0,none⟩)] w (lW l w) :=
 KY _ B l w (by omega) h.wr
end Go.Proofs.YtepkclldbkhanaaGreat
