/- The functions of package ascii and of its reference compute the plain functions of Defs. Conditions: texts shorter than the greatest length. -/
import Derived.Test.YthphepeniaemoaaGreatChecked
import Derived.Test.YthphepeniaemoaaGreatKit
set_option linter.unusedSimpArgs false
set_option linter.unusedVariables false
set_option linter.unnecessarySimpa false
set_option maxHeartbeats 16000000
set_option maxRecDepth 100000
open Go.Proofs.Tryz
namespace Go.Proofs.YthphepeniaemoaaGreat
open Go.RowKit
theorem ES (c:UInt8) (w:World):Calls prog 287 #[.int .u8 c.toNat] w fun e w'=>e=.returned (.bool (isDigit c))/\w=w':=by
 go_enter func287,ntmps287;go_wp2;all_goals
  go_ret;exact ⟨aH (by unfold isDigit;rw [Bool.eq_iff_iff];simp <;> omega),rfl⟩
theorem yN (c:UInt8) (w:World):Calls prog 242 #[.int .u8 c.toNat] w fun e w'=>e=.returned (.bool (gz c))/\w=w':=by
 go_enter func242,ntmps242;go_wp2;all_goals
  go_ret;exact ⟨aH (by unfold gz;rw [Bool.eq_iff_iff];simp <;> omega),rfl⟩
theorem Oj (c:UInt8):((lowerB c).toNat:Int)=if 65<=(c.toNat:Int)/\(c.toNat:Int)<=90 then c.toNat+32 else c.toNat:=by
 unfold lowerB;have:=c.toNat_lt;split
 ·rw [if_pos (by omega),UInt8.toNat_add];simp;omega
 ·rw [if_neg (by omega)]
theorem Oi (c:UInt8) (w:World):Calls prog 237 #[.int .u8 c.toNat] w fun e w'=>e=.returned (.int .u8 (lowerB c).toNat)/\w=w':=by
 have hc:=c.toNat_lt;go_enter func237,ntmps237;go_wp2;all_goals
  go_ret;exact ⟨eH (by rw [Oj];split <;> omega),rfl⟩
theorem z143 {p : Prop} (h : p := by
 have HD := aq (iH s k hlt)
 go_wp2
 go_ret
 exact ⟨eH (by rw [HP.out, HD.out]; simp [digits]), rfl⟩) : p := h
theorem wu (s:ByteArray) (w:World) (hs:s.size<=maxLen) :
 Calls prog 268 #[.string s] w fun e w'=>e=.returned (.int .i64 (digits (bl s)))/\w=w':=by
 unfold maxLen at hs;go_enter func268,ntmps268;go_wp2;go_loop [3] (fun n=>∃ k:Nat,k<=s.size/\n=.int .i64 k/\digits (bl s)=k+digits ((bl s).drop k)) (fun n=>s.size - (intOf n).toNat)
 case atStart=>exact ⟨0,Nat.zero_le _,rfl,by simp⟩
 case round =>
  obtain ⟨k,hk,rfl,hpre⟩:=hrel;have HP:=aq hpre;clear hpre;by_cases hlt:k<s.size
  ·have HD:=aq (drop_cons s k hlt)
   by_cases h1:isDigit s[k]=true
   ·go_wp2_with (go_at_call 287;refine (ES _ _).mono ?_;rintro e w1 ⟨rfl,rfl⟩)
    go_round
    case rel=>exact ⟨k+1,by omega,by go_num,by rw [HP.out,HD.out];simp [digits,h1];omega⟩
    case measure=>simp [intOf];omega
   ·go_wp2_with (go_at_call 287;refine (ES _ _).mono ?_;rintro e w1 ⟨rfl,rfl⟩)
    go_ret;exact ⟨eH (by rw [HP.out,HD.out];simp [digits,h1]),rfl⟩
  ·exact z143
theorem IU (s:ByteArray) (c:UInt8) (w:World) (hs:s.size<=maxLen) :
 Calls prog 243 #[.string s,.int .u8 c.toNat] w fun e w'=>e=.returned (.int .i64 (kU (bl s) c))/\w=w':=by
 unfold maxLen at hs;go_enter func243,ntmps243;go_wp2;go_step3
 go_wp2;go_step3
 go_wp2;go_loop [5,6,9] (fun t _ i=>∃ k:Nat,k<=s.size/\t=.int .i64 (-1)/\i=.int .i64 k/\kU (bl s) c=jv k ((bl s).drop k) c) (fun _ _ i=>s.size - (intOf i).toNat)
 case atStart=>exact ⟨0,Nat.zero_le _,rfl,rfl,by simp [uU]⟩
 case round =>
  obtain ⟨k,hk,rfl,rfl,hpre⟩:=hrel;have HP:=aq hpre;clear hpre;by_cases hlt:k<s.size
  ·have HD:=aq (drop_cons s k hlt)
   by_cases h1:(s[k].toNat:Int)=c.toNat
   ·have h2:((s[k].toNat:Int) == (c.toNat:Int))=true:=by simp [h1]
    have H1:=aq h1;clear h1;go_wp2;try rw [Exit.noGoto_ret]
    go_ret;exact ⟨eH (by rw [HP.out,HD.out,qx H1.out]),rfl⟩
   ·have h2:((s[k].toNat:Int) == (c.toNat:Int))=false:=by simp;omega
    have H1:=aq h1;clear h1;go_wp2;go_round
    case rel=>exact ⟨k+1,by omega,rfl,by go_num,by rw [HP.out,HD.out,qw H1.out]⟩
    case measure=>simp [intOf];omega
  ·have HD:=aq (iH s k hlt)
   go_wp2;try rw [Exit.noGoto_ret]
   go_ret;exact ⟨eH (by rw [HP.out,HD.out,xB]),rfl⟩
theorem z140 {p : Prop} (h : p := by
 have HD := aq (iH s k hlt)
 go_wp2
 go_ret
 exact ⟨aH (by rw [HP.out, HD.out]; simp [control]), rfl⟩) : p := h
theorem Jv (s:ByteArray) (w:World) (hs:s.size<=maxLen) :
 Calls prog 196 #[.string s] w fun e w'=>e=.returned (.bool (control (bl s)))/\w=w':=by
 unfold maxLen at hs;go_enter func196,ntmps196;go_wp2;go_loop [3,6] (fun _ i=>∃ k:Nat,k<=s.size/\i=.int .i64 k/\control (bl s)=control ((bl s).drop k)) (fun _ i=>s.size - (intOf i).toNat)
 case atStart=>exact ⟨0,Nat.zero_le _,rfl,by simp⟩
 case round =>
  obtain ⟨k,hk,rfl,hpre⟩:=hrel;have HP:=aq hpre;clear hpre;by_cases hlt:k<s.size
  ·have HD:=aq (drop_cons s k hlt)
   have HY:Hid (BJ s[k]=true->control (bl s)=true):=fun h=>by rw [HP.out,HD.out];simp [control,h]
   have HN:Hid (BJ s[k]=false->control (bl s)=control ((bl s).drop (k+1))):=fun h=>by rw [HP.out,HD.out];simp [control,h]
   go_wp2;all_goals first
        | (go_ret;exact ⟨aH (HY.out (by unfold BJ;simp;(first | omega | (simp only [beq_iff_eq,beq_eq_false_iff_ne,ne_eq,bne_iff_ne,bne_eq_false_iff_eq,decide_eq_true_eq,decide_eq_false_iff_not,Bool.not_eq_eq_eq_not,Bool.not_true,Bool.not_false] at *;omega)))).symm,rfl⟩)
        | (go_round
           case rel=>exact ⟨k+1,by omega,by go_num,HN.out (by unfold BJ;rw [Bool.eq_iff_iff];simp;(first | omega | (simp only [beq_iff_eq,beq_eq_false_iff_ne,ne_eq,bne_iff_ne,bne_eq_false_iff_eq,decide_eq_true_eq,decide_eq_false_iff_not,Bool.not_eq_eq_eq_not,Bool.not_true,Bool.not_false] at *;omega)))⟩
           case measure=>simp [intOf];omega)
  ·exact z140
theorem JJ (s:ByteArray) (h:0<s.size) (hb:gz s[0]=true):lS (bl (s.extract 1 s.size))=lS (bl s):=by
 have e:bl s=s[0] :: (bl s).drop 1:=by have:=drop_cons s 0 h;simpa using this
 rw [gu];unfold lS;rw [e,List.dropWhile_cons,if_pos hb,<- e];simp [aB,List.take_of_length_le]
theorem JI (s:ByteArray) (h:0<s.size) (hb:gz s[0]=false):lS (bl s)=bl s:=by
 have e:bl s=s[0] :: (bl s).drop 1:=by have:=drop_cons s 0 h;simpa using this
 unfold lS;rw [e,List.dropWhile_cons,hb];simp
theorem qF (l:Bytes) (c:UInt8):rP (l++[c])=if gz c then rP l else l++[c]:=by
 unfold rP;simp only [List.reverse_append,List.reverse_cons,List.reverse_nil,List.nil_append,List.singleton_append,List.dropWhile_cons];split <;> simp
theorem MR (s:ByteArray) (h:0<s.size):bl s=(bl s).take (s.size - 1)++[s[s.size - 1]]:=by
 have:=List.take_succ_eq_append_getElem (l:=bl s) (i:=s.size - 1) (by simp [aB];omega);rw [show s.size - 1+1=s.size by omega,List.take_of_length_le (by simp [aB])] at this;exact this
theorem JH (s:ByteArray) (h:0<s.size) (hb:gz s[s.size - 1]=true):rP (bl (s.extract 0 (s.size - 1)))=rP (bl s):=by
 have e:=MR s h;rw [gu,e,qF,if_pos hb,<- e];simp
theorem JG (s:ByteArray) (h:0<s.size) (hb:gz s[s.size - 1]=false):rP (bl s)=bl s:=by
 have e:=MR s h;rw [e,qF,hb,<- e];simp
theorem z100 {p : Prop} (h : p := by
 go_wp2_with (go_at_call 242; refine (yN _ _).mono ?_; rintro e w1 ⟨rfl, rfl⟩)
 go_round
 case rel => exact ⟨_, by simp; omega, rfl, by rw [HS.out, HP.out]⟩
 case measure => simp [strLen]; omega) : p := h
theorem Rf (s:ByteArray) (w:World) (hs:s.size<=maxLen) :
 Calls prog 197 #[.string s] w fun e w'=>e=.returned (.string (mkS (trim (bl s))))/\w=w':=by
 unfold maxLen at hs;go_enter func197,ntmps197;go_upto_block 0 with fail
 go_cut [0] (fun v wx=>∃ t:ByteArray,t.size<=s.size/\v=.string t/\bl t=lS (bl s)/\wx=w)
 case first =>
  go_wp2;go_loop [0] (fun v=>∃ t:ByteArray,t.size<=s.size/\v=.string t/\lS (bl t)=lS (bl s)) (fun v=>strLen v)
  case atStart=>exact ⟨s,ar _,rfl,rfl⟩
  case round =>
   obtain ⟨t,ht,rfl,hpre⟩:=hrel;have HP:=aq hpre;clear hpre;by_cases h0:0<t.size
   ·have he:=mg h0
    have he':=lK h0;by_cases h1:gz t[0]=true
    ·have HS:=aq (JJ t h0 h1)
     exact z100
    ·have HS:=aq (JI t h0 (by simpa using h1))
     go_wp2_with (go_at_call 242;refine (yN _ _).mono ?_;rintro e w1 ⟨rfl,rfl⟩)
     go_meet;exact ⟨t,ht,rfl,by rw [<- HP.out,HS.out],rfl⟩
   ·have he:=lJ h0
    have he':=nV h0;have HN:=aq (vV h0);go_wp2;go_meet;exact ⟨t,ht,rfl,by rw [<- HP.out,HN.out];rfl,rfl⟩
 case rest =>
  obtain ⟨t0,ht0,rfl,h0,rfl⟩:=hcut;have H0:=aq h0;clear h0;go_wp2;go_loop [0] (fun v=>∃ t:ByteArray,t.size<=s.size/\v=.string t/\rP (bl t)=rP (bl t0)) (fun v=>strLen v)
  case atStart=>exact ⟨t0,ht0,rfl,rfl⟩
  case round =>
   obtain ⟨t,ht,rfl,hpre⟩:=hrel;have HP:=aq hpre;clear hpre;by_cases h0:0<t.size
   ·have he:=mg h0
    have he':=lK h0;by_cases h1:gz t[t.size - 1]=true
    ·have HS:=aq (JH t h0 h1)
     exact z100
    ·have HS:=aq (JG t h0 (by simpa using h1))
     go_wp2_with (go_at_call 242;refine (yN _ _).mono ?_;rintro e w1 ⟨rfl,rfl⟩)
     go_ret;exact ⟨jC (congrArg Value.string (qU (by rw [trim,<- H0.out,<- HP.out,HS.out]))),rfl⟩
   ·have he:=lJ h0
    have he':=nV h0;have HN:=aq (vV h0);go_wp2;go_ret;exact ⟨jC (congrArg Value.string (qU (by rw [trim,<- H0.out,<- HP.out,HN.out];rfl))),rfl⟩
def pU (c:UInt8) (l:Bytes):Bytes×Bytes×Bool:=match eU c l with | none=>(l,[],false) | some k=>(l.take k,l.drop (k+1),true)
theorem below_drewN' {B:Nat} {w:World} (n:Nat):Below B w (w.drewN n):=⟨rfl,rfl,rfl,ar _,fun _ _=>rfl⟩
theorem Na (s:ByteArray) (c:UInt8) (w:World) (hs:s.size<=1073741824) :
 Calls prog 198 #[.string s,.int .u8 c.toNat] w fun e w'=>e=.returned (.tuple #[.string (mkS (pU c (bl s)).1),.string (mkS (pU c (bl s)).2.1),.bool (pU c (bl s)).2.2])/\Below w.heap.size w w':=by
 by_cases hn:0<=kU (bl s) c
 ·obtain ⟨k,hk,hki,hkl⟩:=F5 hn
  rw [aB] at hkl;have hx:IntKind.i64.wrap ((k:Int)+1)=(k:Int)+1:=IntWalk.i64_in _ (by omega);have hy:((k:Int)+1).toNat=k+1:=by omega
  have hz:(0:Int)<=(k:Int)+1:=by omega
  have hk0:(0:Int)<=(k:Int):=by omega
  have hq:(k:Int)<=(s.size:Int):=by omega
  have hq1:(k:Int)+1<=(s.size:Int):=by omega
  have HK:=aq hk;have HKI:=aq hki;clear hk hki hn;go_enter func198,ntmps198;go_wp2_with (go_at_call 243;refine (IU s c _ (by unfold maxLen;omega)).mono ?_;rintro e w1 ⟨rfl,rfl⟩;rw [HKI.out])
  go_quiet (fail)
  clear hx hy;go_wp2;go_ret3
  exact ⟨by rw [show pU c (bl s)=((bl s).take k,(bl s).drop (k+1),true) by unfold pU;rw [HK.out]];simp only [P9,Qa];rfl,below_drewN' _⟩
 ·have HN:=aq (OG (by omega:kU (bl s) c<0))
  have hneg:kU (bl s) c<0:=by omega
  go_enter func198,ntmps198;go_wp2_with (go_at_call 243;refine (IU s c _ (by unfold maxLen;omega)).mono ?_;rintro e w1 ⟨rfl,rfl⟩)
  go_ret3
  exact ⟨by rw [show pU c (bl s)=(bl s,[],false) by unfold pU;rw [HN.out],Bj];rfl,bh _ _⟩
/-- the strings of some texts -/
def mQ (l:List Bytes):List Value:=l.map fun x=>.string (mkS x)
/-- what Split hands back -/
def MW (E:TypeId) (l:List Bytes) (w:World) (e:Ending) (w':World):Prop :=
 ∃ v,e=.returned v/\w'.ownsRow w.heap.size E 1 v l.length (mQ l)/\Below w.heap.size w w'
theorem Tryz.infoStr:(prog.info? 9).map (fun i=>(i.zero,i.size,i.bytes))=some (some (.string ByteArray.empty),1,16):=by kernel_rfl
theorem La (c:UInt8) (l:Bytes) (h:(pU c l).2.2=true):splitB c l=(pU c l).1 :: splitB c (pU c l).2.1:=by
 unfold pU at *
 cases hf:eU c l with
 | none=>simp [hf] at h
 | some k=>simp [yR hf]
theorem OO (c:UInt8) (l:Bytes) (h:(pU c l).2.2=false):splitB c l=[(pU c l).1]:=by
 unfold pU at *
 cases hf:eU c l with
 | none=>simp [yS hf]
 | some k=>simp [hf] at h
theorem Tq (c:UInt8) (l:Bytes) (h:(pU c l).2.2=true):(pU c l).2.1.length<l.length:=by
 unfold pU at *
 cases hf:eU c l with
 | none=>simp [hf] at h
 | some k=>have:=Cm hf;simp;omega
theorem E8 (s:ByteArray) (c:UInt8) (w:World) (hs:s.size<=1073741824) :
 Calls prog 238 #[.string s,.int .u8 c.toNat] w (MW 9 (splitB c (bl s)) w):=by
 obtain ⟨i0,hi,hz0,hz1,hz2⟩:=info_parts Tryz.infoStr;go_enter func238,ntmps238;go_wp2;go_loopw [0,5] (fun v out wr=>∃ (t:ByteArray) (done:List Bytes),v=.string t/\done.length+t.size<=s.size/\splitB c (bl s)=done++splitB c (bl t)/\wr.ownsRow w.heap.size 9 1 out done.length (mQ done)/\Below w.heap.size w wr) (fun v _ _=>strLen v)
 case atStart=>exact ⟨s,[],rfl,by simp,rfl,World.ownsRow_nil _ _ _ _,bh _ _⟩
 case round =>
  obtain ⟨t,done,rfl,hlen,hpre,hown,hbel⟩:=hrel;have HP:=aq hpre;clear hpre;have hcall:=fun (W:World)=>Na t c W (by omega);have hS:=La c (bl t);have hT:=OO c (bl t);have hL:=Tq c (bl t);generalize pU c (bl t)=x at hcall hS hT hL;obtain ⟨p,q,b⟩:=x;simp only at hcall hS hT hL;have HC:=aq hcall;clear hcall;rw [aB] at hL
  cases b with
  | true =>
    have HS:=aq (hS rfl);have hL':=hL rfl;clear hS hT hL;go_wp2_with (first
        | (go_at_call 198;refine (HC.out _).mono ?_;rintro e w1 ⟨rfl,hb⟩;have hown1:=ownsRow_below hown hb;have IE:=hbel.trans (hb.mono hbel.size);have hzw:=IE.size)
        | (at_builtin;go_loud (refine wpList_append_own _ rfl _ _ 103 rfl w.heap.size 9 i0 (.string ByteArray.empty) 1 16 underlying103 hi hz0 hz1 hz2 rfl (by decide) _ _ _ rfl (hown1.alloc _) ⟨w1.heap.size,0,none⟩ 1 1 [.string (mkS p)] rfl rfl ?c1 ?c2 ?c3 ?c4 ?c5 ?_)))
    case c1=>exact cell_one_new _ _ _
    case c2=>simp [Value.oneCell']
    case c3=>unfold maxLen;omega
    case c4=>omega
    case c5=>simp;omega
    intro v' w2 hown2 hgrow _;have lm:=(IE.alloc hzw (Obj.cells #[.string (mkS p)] 9)).grown hgrow (by simp;omega) (fun k hk=>(hown1.lt k hk).1);go_wp2;go_roundw
    case rel=>exact ⟨mkS q,done++[p],rfl,by simp [kN];omega,by rw [HP.out,HS.out];simp [mJ],by simpa [mQ] using hown2,lm⟩
    case measure=>simp [strLen,kN];omega
  | false =>
    have HS:=aq (hT rfl);clear hS hT hL;go_wp2_with (first
        | (go_at_call 198;refine (HC.out _).mono ?_;rintro e w1 ⟨rfl,hb⟩;have hown1:=ownsRow_below hown hb;have IE:=hbel.trans (hb.mono hbel.size);have hzw:=IE.size)
        | (at_builtin;go_loud (refine wpList_append_own _ rfl _ _ 103 rfl w.heap.size 9 i0 (.string ByteArray.empty) 1 16 underlying103 hi hz0 hz1 hz2 rfl (by decide) _ _ _ rfl (hown1.alloc _) ⟨w1.heap.size,0,none⟩ 1 1 [.string (mkS p)] rfl rfl ?d1 ?d2 ?d3 ?d4 ?d5 ?_)))
    case d1=>exact cell_one_new _ _ _
    case d2=>simp [Value.oneCell']
    case d3=>unfold maxLen;omega
    case d4=>omega
    case d5=>simp;omega
    intro v' w2 hown2 hgrow _;have lm:=(IE.alloc hzw (Obj.cells #[.string (mkS p)] 9)).grown hgrow (by simp;omega) (fun k hk=>(hown1.lt k hk).1);go_wp2;go_ret;exact ⟨_,rfl,by rw [HP.out,HS.out];simpa [mQ] using hown2,lm⟩
theorem Og (l:Bytes) (k:Nat) (h:k<l.length):(dP (l.take k)++l.drop k).set k (lowerB l[k])=dP (l.take (k+1))++l.drop (k+1):=by
 rw [List.set_append_right _ _ (by simp [dP];omega)];have e:k - (dP (l.take k)).length=0:=by simp [dP];omega
 rw [e,List.drop_eq_getElem_cons h,List.set_cons_zero,List.take_succ_eq_append_getElem h];simp only [dP,List.map_append,List.map_cons,List.map_nil,List.append_assoc,List.singleton_append]
theorem Oh (l:Bytes) (k:Nat) (h:k<l.length):(dP (l.take k)++l.drop k)[k]?=some l[k]:=by
 rw [List.getElem?_append_right (by simp [dP];omega)];simp [dP,Nat.min_eq_left (Nat.le_of_lt h)]
theorem Ph (s:ByteArray) (w:World) (hs:s.size<=1073741824) :
 Calls prog 193 #[.string s] w fun e w'=>e=.returned (.string (mkS (dP (bl s))))/\Below w.heap.size w w':=by
 obtain ⟨cap,w1,hconv,hb1,hz1,hcap,hby,hfr⟩:=CU (P:=prog) 9 54 5 underlying9 underlying54 underlying5 w s;go_enter func193,ntmps193;go_wp2;clear hconv;go_loopw [4,9] (fun _ i wr=>∃ k:Nat,k<=s.size/\i=.int .i64 k/\BytesAt wr w.heap.size 0 (dP ((bl s).take k)++(bl s).drop k)/\FreeAt wr w.heap.size 0 s.size/\Below w.heap.size w wr) (fun _ i _=>s.size - (intOf i).toNat)
 case atStart=>exact ⟨0,Nat.zero_le _,rfl,by simpa [dP] using hby,hfr,hb1⟩
 case round =>
  obtain ⟨k,hk,rfl,hba,hfa,hbel⟩:=hrel;by_cases hlt:k<s.size
  ·have hlt':k<(bl s).length:=hlt
   have hll:(dP ((bl s).take k)++(bl s).drop k).length=s.size:=by simp [dP,aB];omega
   have hgk:=Oh (bl s) k hlt';have hck:wr.cell? ⟨w.heap.size,k,none⟩=some (.int .u8 (bl s)[k].toNat):=by
        have:=hba k (by omega);rw [aw] at this;rw [this];have h2:=(List.getElem?_eq_some_iff.1 hgk).2;rw [h2]
   have hfk:wr.frozen? ⟨w.heap.size,k,none⟩=false:=by have:=hfa k hlt;rwa [aw] at this
   have hset:=hba.set (k:=k) (by omega) (lowerB (bl s)[k]);rw [Og _ _ hlt',aw] at hset;have hfs:=hfa.set ⟨w.heap.size,k,none⟩ (.int .u8 (lowerB (bl s)[k]).toNat);have hbs:=hbel.setCell (p:=⟨w.heap.size,k,none⟩) (ar _) (.int .u8 (lowerB (bl s)[k]).toNat);clear hgk hll;generalize (bl s)[k]=x at *;clear hlt';have HS:=aq hset;have HF:=aq hfs;have HB:=aq hbs;clear hset hfs hbs hba hfa hbel;go_wp2_with (go_at_call 237;refine (Oi _ _).mono ?_;rintro e w2 ⟨rfl,rfl⟩)
   go_roundw
   case rel=>exact ⟨k+1,by omega,by go_num,HS.out,HF.out,HB.out⟩
   case measure=>simp [intOf];omega
  ·have hke:k=s.size:=by omega
   subst hke;rw [List.take_of_length_le (by simp [aB]),List.drop_eq_nil_of_le (by simp [aB]),List.append_nil] at hba;have hback:=run_convert_bytes_back (P:=prog) wr 54 9 5 ⟨w.heap.size,0,none⟩ cap (dP (bl s)) underlying54 underlying5 underlying9 (fun j hj=>by
        have h2:=hba j hj;rw [aw] at h2;unfold Addr.add;split
        ·rename_i h0;subst h0;exact h2
        ·simpa using h2)
   have hlen:(dP (bl s)).length=s.size:=by simp [dP,aB]
   rw [hlen] at hback;have HB:=aq hbel;clear hlen hba hfa hbel;go_wp2;go_ret;exact ⟨rfl,HB.out⟩
theorem qR {n:Int} {c:UInt8} (h0:0<=n) (hc:isDigit c=true):0<=dY n c/\dY n c<=1099511627776:=by
 unfold isDigit at hc;simp at hc;unfold dY;omega
theorem IR:∀ (l:Bytes) (n:Int),0<=n->n<=1099511627776->l.all isDigit=true->0<=l.foldl dY n/\l.foldl dY n<=1099511627776
 | [],n,h0,h1,_=>⟨h0,h1⟩
 | c :: r,n,h0,_,hl=>by
   simp only [List.all_cons,Bool.and_eq_true] at hl;have:=qR h0 hl.1;exact IR r _ this.1 this.2 hl.2
theorem wY (l:Bytes) (h:l.all isDigit=true):0<=jW l/\jW l<=1099511627776:=IR l 0 (by omega) (by omega) h
theorem vG {t:ByteArray} (h:(bl t).all isDigit=true) {k:Nat} (hk:k<t.size):isDigit t[k]=true :=
 List.all_eq_true.1 h _ (by show t.data[k]∈t.data.toList;simp)
theorem H8 (c:UInt8) (r:Bytes) (h:c.toNat=45):number (c :: r)=if 0<r.length/\r.all isDigit=true then (- jW r,true) else (0,false):=by
 unfold number;simp only [h,if_true]
 cases r with
 | nil=>simp
 | cons a b =>
   by_cases ha:(a :: b).all isDigit=true
   ·rw [if_neg (by simp only [ha];simp),if_pos ⟨by simp,ha⟩]
   ·rw [if_pos (bd ha),if_neg (fun x=>ha x.2)]
theorem H6 (c:UInt8) (r:Bytes) (h:¬ c.toNat=45):number (c :: r)=if (c :: r).all isDigit=true then (jW (c :: r),true) else (0,false):=by
 unfold number;simp only [h,if_false];by_cases ha:(c :: r).all isDigit=true
 ·rw [if_neg (fun x=>x ha),if_pos ha]
 ·rw [if_pos ha,if_neg ha]
theorem Bf (s t:ByteArray) (h0:0<s.size) (h:s[0].toNat=45) (ht:t=s.extract 1 s.size):number (bl s)=if 0<t.size/\(bl t).all isDigit=true then (- jW (bl t),true) else (0,false):=by
 have e:bl s=s[0] :: (bl s).drop 1:=by have:=drop_cons s 0 h0;simpa using this
 have e2:bl t=(bl s).drop 1:=by rw [ht,gu,List.take_of_length_le (by simp [aB])]
 rw [<- aB t,e2,e,H8 _ _ h];rfl
theorem qQ (s:ByteArray) (h:¬ (0<s.size/\∀ h:0<s.size,s[0].toNat=45)):number (bl s)=if 0<s.size/\(bl s).all isDigit=true then (jW (bl s),true) else (0,false):=by
 by_cases h0:0<s.size
 ·have e:bl s=s[0] :: (bl s).drop 1:=by have:=drop_cons s 0 h0;simpa using this
  have h45:¬ s[0].toNat=45:=fun hh=>h ⟨h0,fun _=>hh⟩;rw [e,H6 _ _ h45,<- e];by_cases ha:(bl s).all isDigit=true
  ·rw [if_pos ha,if_pos ⟨h0,ha⟩]
  ·rw [if_neg ha,if_neg (fun x=>ha x.2)]
 ·rw [if_neg (fun x=>h0 x.1),vV h0];rfl
theorem z13 {p : Prop} (h : p := by
 have hdl := qB (bl t)
 rw [aB] at hdl
 by_cases hall : (bl t).all isDigit = true
 ·have hnl : ¬ digits (bl t) < t.size := fun h => (eX (bl t)).1 (by rw [aB]; exact h) hall
  have hge : (t.size : Int) <= (digits (bl t) : Int) := by omega
  have HA := aq hall
  have hnb := wY (bl t) hall
  clear hall hnl
  go_enter func267, ntmps267
  go_wp2_with (go_at_call 268; refine (wu _ _ (by unfold maxLen; omega)).mono ?_; rintro e w1 ⟨rfl, rfl⟩)
  go_loop [6, 7, 29] (fun v _ i => ∃ (k : Nat) (n : Int), k <= t.size /\ i = .int .i64 k /\ v = .int .i64 n /\ 0 <= n /\ n <= 1099511627776 /\ jW (bl t) = ((bl t).drop k).foldl dY n) (fun _ _ i => t.size - (intOf i).toNat)
  case atStart => exact ⟨0, 0, Nat.zero_le _, rfl, rfl, by omega, by omega, rfl⟩
  case round =>
   obtain ⟨k, n, hk, rfl, rfl, hn0, hn1, hpre⟩ := hrel
   have HP := aq hpre
   clear hpre
   by_cases hlt : k < t.size
   ·have HD := aq (drop_cons t k hlt)
    have hdg := vG HA.out hlt
    have hbd := qR hn0 hdg
    have OA : 48 <= t[k].toNat /\ t[k].toNat <= 57 := by simpa [isDigit] using hdg
    obtain ⟨hg1, hg2⟩ := OA
    have HN : Hid (dY n t[k] = min (n * 10 + ((t[k].toNat : Int) - 48)) 1099511627776) := rfl
    clear hdg
    go_wp2
    go_round
    case rel => exact ⟨k + 1, dY n t[k], by omega, by go_num, by rw [HN.out]; exact congrArg _ (by split <;> omega), hbd.1, hbd.2, by rw [HP.out, HD.out]; rfl⟩
    case measure => simp [intOf]; omega
   ·have HD := aq (iH t k hlt)
    have HE : Hid (jW (bl t) = n) := by rw [Hid, HP.out, HD.out]; rfl
    go_wp2
    go_ret2
    exact ⟨jC (by rw [HV.out, if_pos ⟨h0t, HA.out⟩, HE.out]; rfl), rfl⟩
 ·have hnl : digits (bl t) < t.size := by have := (eX (bl t)).2 hall; rwa [aB] at this
  have HA := aq hall
  clear hall
  go_enter func267, ntmps267
  go_wp2_with (go_at_call 268; refine (wu _ _ (by unfold maxLen; omega)).mono ?_; rintro e w1 ⟨rfl, rfl⟩)
  go_ret2
  exact ⟨jC (by rw [HV.out, if_neg (fun h => HA.out h.2)]; rfl), rfl⟩) : p := h
theorem z112 {p : Prop} (h : p := by
 have he := lJ h0t
 have he' := nV h0t
 go_enter func267, ntmps267
 go_wp2
 go_ret2
 exact ⟨jC (by rw [HV.out, if_neg (fun h => h0t h.1)]; rfl), rfl⟩) : p := h
theorem LQ (s:ByteArray) (w:World) (hs:s.size<=1073741824) :
 Calls prog 267 #[.string s] w fun e w'=>e=.returned (.tuple #[.int .i64 (number (bl s)).1,.bool (number (bl s)).2])/\w=w':=by
 by_cases hneg:0<s.size/\∀ h:0<s.size,s[0].toNat=45
 ·obtain ⟨h0,h45⟩:=hneg
  have h45':=h45 h0;have hq:((s[0].toNat:Int) == 45)=true:=by simp;omega
  have hse:=mg h0;have hse':=lK h0;obtain ⟨t,ht⟩:∃ t,t=s.extract 1 s.size:=⟨_,rfl⟩;have HV:=aq (Bf s t h0 h45' ht);have hts:t.size<=s.size:=by rw [ht];simp
  have hx:s.extract 1 s.size=t:=ht.symm;clear h45 h45' ht;by_cases h0t:0<t.size
  ·have he:=mg h0t
   have he':=lK h0t;skip
   exact z13
  ·exact z112
 ·have HV:=aq (qQ s hneg)
  have hqq:Hid (∀ h:0<s.size,((s[0].toNat:Int) == 45)=false):=fun h=>by
   have:¬ s[0].toNat=45:=fun hh=>hneg ⟨h,fun _=>hh⟩;simp;omega
  clear hneg;have hts:s.size<=s.size:=ar _;obtain ⟨t,rfl⟩:∃ t,t=s:=⟨_,rfl⟩;by_cases h0t:0<t.size
  ·have he:=mg h0t
   have he':=lK h0t;have hq:=hqq.out h0t
   exact z13
  ·exact z112
end Go.Proofs.YthphepeniaemoaaGreat
