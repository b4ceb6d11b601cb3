/- The functions of package ascii and of its reference compute the plain functions of Defs. Conditions: texts shorter than the greatest length. -/
import Derived.Test.YthphepeniaemoaaGreatChecked
import Derived.Test.YthphepeniaemoaaGreatKit
set_option linter.unusedSimpArgs false
set_option linter.unusedVariables false
set_option linter.unnecessarySimpa false
set_option maxHeartbeats 16000000
set_option maxRecDepth 100000
open Go.Proofs.Tryz
namespace Go.Proofs.YthphepeniaemoaaGreat
open Go.RowKit
theorem ES (c:UInt8) (w:World):Calls prog 287 #[.int .u8 c.toNat] w fun e w'=>e=.returned (.bool (isDigit c))/\w=w':=by
 go_enter func287,ntmps287;go_wp2;all_goals
  go_ret;exact ⟨au (by unfold isDigit;rw [Bool.eq_iff_iff];simp <;> omega),rfl⟩
theorem yK (c:UInt8) (w:World):Calls prog 242 #[.int .u8 c.toNat] w fun e w'=>e=.returned (.bool (gK c))/\w=w':=by
 go_enter func242,ntmps242;go_wp2;all_goals
  go_ret;exact ⟨au (by unfold gK;rw [Bool.eq_iff_iff];simp <;> omega),rfl⟩
theorem OE (c:UInt8):((lowerB c).toNat:Int)=if 65<=(c.toNat:Int)/\(c.toNat:Int)<=90 then c.toNat+32 else c.toNat:=by
 unfold lowerB;have:=c.toNat_lt;split
 ·rw [if_pos (by omega),UInt8.toNat_add];simp;omega
 ·rw [if_neg (by omega)]
theorem OD (c:UInt8) (w:World):Calls prog 237 #[.int .u8 c.toNat] w fun e w'=>e=.returned (.int .u8 (lowerB c).toNat)/\w=w':=by
 have hc:=c.toNat_lt;go_enter func237,ntmps237;go_wp2;all_goals
  go_ret;exact ⟨fC (by rw [OE];split <;> omega),rfl⟩
theorem z148 {p : Prop} (h : p := by
 have HD := aa (jd s k hlt)
 go_wp2
 go_ret
 exact ⟨fC (by rw [HP.out, HD.out]; simp [digits]), rfl⟩) : p := h
theorem vg (s:ByteArray) (w:World) (hs:s.size<=maxLen) :
 Calls prog 268 #[.string s] w fun e w'=>e=.returned (.int .i64 (digits (bl s)))/\w=w':=by
 unfold maxLen at hs;go_enter func268,ntmps268;go_wp2;go_loop [3] (fun n=>∃ k:Nat,k<=s.size/\n=.int .i64 k/\digits (bl s)=k+digits ((bl s).drop k)) (fun n=>s.size - (intOf n).toNat)
 case atStart=>exact ⟨0,Nat.zero_le _,rfl,by simp⟩
 case round =>
  obtain ⟨k,hk,rfl,hpre⟩:=hrel;have HP:=aa hpre;clear hpre;by_cases hlt:k<s.size
  ·have HD:=aa (drop_cons s k hlt)
   by_cases h1:isDigit s[k]=true
   ·go_wp2_with (go_at_call 287;refine (ES _ _).mono ?_;rintro e w1 ⟨rfl,rfl⟩)
    go_round
    case rel=>exact ⟨k+1,by omega,by go_num,by rw [HP.out,HD.out];simp [digits,h1];omega⟩
    case measure=>simp [intOf];omega
   ·go_wp2_with (go_at_call 287;refine (ES _ _).mono ?_;rintro e w1 ⟨rfl,rfl⟩)
    go_ret;exact ⟨fC (by rw [HP.out,HD.out];simp [digits,h1]),rfl⟩
  ·exact z148
theorem IX (s:ByteArray) (c:UInt8) (w:World) (hs:s.size<=maxLen) :
 Calls prog 243 #[.string s,.int .u8 c.toNat] w fun e w'=>e=.returned (.int .i64 (kV (bl s) c))/\w=w':=by
 unfold maxLen at hs;go_enter func243,ntmps243;go_wp2;go_step3
 go_wp2;go_step3
 go_wp2;go_loop [5,6,9] (fun t _ i=>∃ k:Nat,k<=s.size/\t=.int .i64 (-1)/\i=.int .i64 k/\kV (bl s) c=jB k ((bl s).drop k) c) (fun _ _ i=>s.size - (intOf i).toNat)
 case atStart=>exact ⟨0,Nat.zero_le _,rfl,rfl,by simp [uy]⟩
 case round =>
  obtain ⟨k,hk,rfl,rfl,hpre⟩:=hrel;have HP:=aa hpre;clear hpre;by_cases hlt:k<s.size
  ·have HD:=aa (drop_cons s k hlt)
   by_cases h1:(s[k].toNat:Int)=c.toNat
   ·have h2:((s[k].toNat:Int) == (c.toNat:Int))=true:=by simp [h1]
    have H1:=aa h1;clear h1;go_wp2;try rw [Exit.noGoto_ret]
    go_ret;exact ⟨fC (by rw [HP.out,HD.out,pU H1.out]),rfl⟩
   ·have h2:((s[k].toNat:Int) == (c.toNat:Int))=false:=by simp;omega
    have H1:=aa h1;clear h1;go_wp2;go_round
    case rel=>exact ⟨k+1,by omega,rfl,by go_num,by rw [HP.out,HD.out,pR H1.out]⟩
    case measure=>simp [intOf];omega
  ·have HD:=aa (jd s k hlt)
   go_wp2;try rw [Exit.noGoto_ret]
   go_ret;exact ⟨fC (by rw [HP.out,HD.out,wW]),rfl⟩
theorem z145 {p : Prop} (h : p := by
 have HD := aa (jd s k hlt)
 go_wp2
 go_ret
 exact ⟨au (by rw [HP.out, HD.out]; simp [control]), rfl⟩) : p := h
theorem JA (s:ByteArray) (w:World) (hs:s.size<=maxLen) :
 Calls prog 196 #[.string s] w fun e w'=>e=.returned (.bool (control (bl s)))/\w=w':=by
 unfold maxLen at hs;go_enter func196,ntmps196;go_wp2;go_loop [3,6] (fun _ i=>∃ k:Nat,k<=s.size/\i=.int .i64 k/\control (bl s)=control ((bl s).drop k)) (fun _ i=>s.size - (intOf i).toNat)
 case atStart=>exact ⟨0,Nat.zero_le _,rfl,by simp⟩
 case round =>
  obtain ⟨k,hk,rfl,hpre⟩:=hrel;have HP:=aa hpre;clear hpre;by_cases hlt:k<s.size
  ·have HD:=aa (drop_cons s k hlt)
   have HY:Hid (BR s[k]=true->control (bl s)=true):=fun h=>by rw [HP.out,HD.out];simp [control,h]
   have HN:Hid (BR s[k]=false->control (bl s)=control ((bl s).drop (k+1))):=fun h=>by rw [HP.out,HD.out];simp [control,h]
   go_wp2;all_goals first
        | (go_ret;exact ⟨au (HY.out (by unfold BR;simp;(first | omega | (simp only [beq_iff_eq,beq_eq_false_iff_ne,ne_eq,bne_iff_ne,bne_eq_false_iff_eq,decide_eq_true_eq,decide_eq_false_iff_not,Bool.not_eq_eq_eq_not,Bool.not_true,Bool.not_false] at *;omega)))).symm,rfl⟩)
        | (go_round
           case rel=>exact ⟨k+1,by omega,by go_num,HN.out (by unfold BR;rw [Bool.eq_iff_iff];simp;(first | omega | (simp only [beq_iff_eq,beq_eq_false_iff_ne,ne_eq,bne_iff_ne,bne_eq_false_iff_eq,decide_eq_true_eq,decide_eq_false_iff_not,Bool.not_eq_eq_eq_not,Bool.not_true,Bool.not_false] at *;omega)))⟩
           case measure=>simp [intOf];omega)
  ·exact z145
theorem JO (s:ByteArray) (h:0<s.size) (hb:gK s[0]=true):lN (bl (s.extract 1 s.size))=lN (bl s):=by
 have e:bl s=s[0] :: (bl s).drop 1:=by have:=drop_cons s 0 h;simpa using this
 rw [gy];unfold lN;rw [e,List.dropWhile_cons,if_pos hb,<- e];simp [aB,List.take_of_length_le]
theorem JM (s:ByteArray) (h:0<s.size) (hb:gK s[0]=false):lN (bl s)=bl s:=by
 have e:bl s=s[0] :: (bl s).drop 1:=by have:=drop_cons s 0 h;simpa using this
 unfold lN;rw [e,List.dropWhile_cons,hb];simp
theorem pY (l:Bytes) (c:UInt8):qM (l++[c])=if gK c then qM l else l++[c]:=by
 unfold qM;simp only [List.reverse_append,List.reverse_cons,List.reverse_nil,List.nil_append,List.singleton_append,List.dropWhile_cons];split <;> simp
theorem Ns (s:ByteArray) (h:0<s.size):bl s=(bl s).take (s.size - 1)++[s[s.size - 1]]:=by
 have:=List.take_succ_eq_append_getElem (l:=bl s) (i:=s.size - 1) (by simp [aB];omega);rw [show s.size - 1+1=s.size by omega,List.take_of_length_le (by simp [aB])] at this;exact this
theorem JL (s:ByteArray) (h:0<s.size) (hb:gK s[s.size - 1]=true):qM (bl (s.extract 0 (s.size - 1)))=qM (bl s):=by
 have e:=Ns s h;rw [gy,e,pY,if_pos hb,<- e];simp
theorem JK (s:ByteArray) (h:0<s.size) (hb:gK s[s.size - 1]=false):qM (bl s)=bl s:=by
 have e:=Ns s h;rw [e,pY,hb,<- e];simp
theorem z101 {p : Prop} (h : p := by
 go_wp2_with (go_at_call 242; refine (yK _ _).mono ?_; rintro e w1 ⟨rfl, rfl⟩)
 go_round
 case rel => exact ⟨_, by simp; omega, rfl, by rw [HS.out, HP.out]⟩
 case measure => simp [strLen]; omega) : p := h
theorem RD (s:ByteArray) (w:World) (hs:s.size<=maxLen) :
 Calls prog 197 #[.string s] w fun e w'=>e=.returned (.string (mkS (trim (bl s))))/\w=w':=by
 unfold maxLen at hs;go_enter func197,ntmps197;go_upto_block 0 with fail
 go_cut [0] (fun v wx=>∃ t:ByteArray,t.size<=s.size/\v=.string t/\bl t=lN (bl s)/\wx=w)
 case first =>
  go_wp2;go_loop [0] (fun v=>∃ t:ByteArray,t.size<=s.size/\v=.string t/\lN (bl t)=lN (bl s)) (fun v=>strLen v)
  case atStart=>exact ⟨s,aq _,rfl,rfl⟩
  case round =>
   obtain ⟨t,ht,rfl,hpre⟩:=hrel;have HP:=aa hpre;clear hpre;by_cases h0:0<t.size
   ·have he:=mr h0
    have he':=lI h0;by_cases h1:gK t[0]=true
    ·have HS:=aa (JO t h0 h1)
     exact z101
    ·have HS:=aa (JM t h0 (by simpa using h1))
     go_wp2_with (go_at_call 242;refine (yK _ _).mono ?_;rintro e w1 ⟨rfl,rfl⟩)
     go_meet;exact ⟨t,ht,rfl,by rw [<- HP.out,HS.out],rfl⟩
   ·have he:=lH h0
    have he':=nO h0;have HN:=aa (uY h0);go_wp2;go_meet;exact ⟨t,ht,rfl,by rw [<- HP.out,HN.out];rfl,rfl⟩
 case rest =>
  obtain ⟨t0,ht0,rfl,h0,rfl⟩:=hcut;have H0:=aa h0;clear h0;go_wp2;go_loop [0] (fun v=>∃ t:ByteArray,t.size<=s.size/\v=.string t/\qM (bl t)=qM (bl t0)) (fun v=>strLen v)
  case atStart=>exact ⟨t0,ht0,rfl,rfl⟩
  case round =>
   obtain ⟨t,ht,rfl,hpre⟩:=hrel;have HP:=aa hpre;clear hpre;by_cases h0:0<t.size
   ·have he:=mr h0
    have he':=lI h0;by_cases h1:gK t[t.size - 1]=true
    ·have HS:=aa (JL t h0 h1)
     exact z101
    ·have HS:=aa (JK t h0 (by simpa using h1))
     go_wp2_with (go_at_call 242;refine (yK _ _).mono ?_;rintro e w1 ⟨rfl,rfl⟩)
     go_ret;exact ⟨jH (congrArg Value.string (qA (by rw [trim,<- H0.out,<- HP.out,HS.out]))),rfl⟩
   ·have he:=lH h0
    have he':=nO h0;have HN:=aa (uY h0);go_wp2;go_ret;exact ⟨jH (congrArg Value.string (qA (by rw [trim,<- H0.out,<- HP.out,HN.out];rfl))),rfl⟩
def o6 (c:UInt8) (l:Bytes):Bytes×Bytes×Bool:=match eG c l with | none=>(l,[],false) | some k=>(l.take k,l.drop (k+1),true)
theorem below_drewN' {B:Nat} {w:World} (n:Nat):Below B w (w.drewN n):=⟨rfl,rfl,rfl,aq _,fun _ _=>rfl⟩
theorem NC (s:ByteArray) (c:UInt8) (w:World) (hs:s.size<=1073741824) :
 Calls prog 198 #[.string s,.int .u8 c.toNat] w fun e w'=>e=.returned (.tuple #[.string (mkS (o6 c (bl s)).1),.string (mkS (o6 c (bl s)).2.1),.bool (o6 c (bl s)).2.2])/\Below w.heap.size w w':=by
 by_cases hn:0<=kV (bl s) c
 ·obtain ⟨k,hk,hki,hkl⟩:=Gi hn
  rw [aB] at hkl;have hx:IntKind.i64.wrap ((k:Int)+1)=(k:Int)+1:=IntWalk.i64_in _ (by omega);have hy:((k:Int)+1).toNat=k+1:=by omega
  have hz:(0:Int)<=(k:Int)+1:=by omega
  have hk0:(0:Int)<=(k:Int):=by omega
  have hq:(k:Int)<=(s.size:Int):=by omega
  have hq1:(k:Int)+1<=(s.size:Int):=by omega
  have HK:=aa hk;have HKI:=aa hki;clear hk hki hn;go_enter func198,ntmps198;go_wp2_with (go_at_call 243;refine (IX s c _ (by unfold maxLen;omega)).mono ?_;rintro e w1 ⟨rfl,rfl⟩;rw [HKI.out])
  go_quiet (fail)
  clear hx hy;go_wp2;go_ret3
  exact ⟨by rw [show o6 c (bl s)=((bl s).take k,(bl s).drop (k+1),true) by unfold o6;rw [HK.out]];simp only [Qo,Qp];rfl,below_drewN' _⟩
 ·have HN:=aa (O7 (by omega:kV (bl s) c<0))
  have hneg:kV (bl s) c<0:=by omega
  go_enter func198,ntmps198;go_wp2_with (go_at_call 243;refine (IX s c _ (by unfold maxLen;omega)).mono ?_;rintro e w1 ⟨rfl,rfl⟩)
  go_ret3
  exact ⟨by rw [show o6 c (bl s)=(bl s,[],false) by unfold o6;rw [HN.out],BA];rfl,bb _ _⟩
/-- the strings of some texts -/
def ni (l:List Bytes):List Value:=l.map fun x=>.string (mkS x)
/-- what Split hands back -/
def Nw (E:TypeId) (l:List Bytes) (w:World) (e:Ending) (w':World):Prop :=
 ∃ v,e=.returned v/\w'.ownsRow w.heap.size E 1 v l.length (ni l)/\Below w.heap.size w w'
theorem Tryz.infoStr:(prog.info? 9).map (fun i=>(i.zero,i.size,i.bytes))=some (some (.string ByteArray.empty),1,16):=by kernel_rfl
theorem Lr (c:UInt8) (l:Bytes) (h:(o6 c l).2.2=true):splitB c l=(o6 c l).1 :: splitB c (o6 c l).2.1:=by
 unfold o6 at *
 cases hf:eG c l with
 | none=>simp [hf] at h
 | some k=>simp [yO hf]
theorem Pi (c:UInt8) (l:Bytes) (h:(o6 c l).2.2=false):splitB c l=[(o6 c l).1]:=by
 unfold o6 at *
 cases hf:eG c l with
 | none=>simp [yP hf]
 | some k=>simp [hf] at h
theorem TG (c:UInt8) (l:Bytes) (h:(o6 c l).2.2=true):(o6 c l).2.1.length<l.length:=by
 unfold o6 at *
 cases hf:eG c l with
 | none=>simp [hf] at h
 | some k=>have:=CP hf;simp;omega
theorem Fa (s:ByteArray) (c:UInt8) (w:World) (hs:s.size<=1073741824) :
 Calls prog 238 #[.string s,.int .u8 c.toNat] w (Nw 9 (splitB c (bl s)) w):=by
 obtain ⟨i0,hi,hz0,hz1,hz2⟩:=info_parts Tryz.infoStr;go_enter func238,ntmps238;go_wp2;go_loopw [0,5] (fun v out wr=>∃ (t:ByteArray) (done:List Bytes),v=.string t/\done.length+t.size<=s.size/\splitB c (bl s)=done++splitB c (bl t)/\wr.ownsRow w.heap.size 9 1 out done.length (ni done)/\Below w.heap.size w wr) (fun v _ _=>strLen v)
 case atStart=>exact ⟨s,[],rfl,by simp,rfl,World.ownsRow_nil _ _ _ _,bb _ _⟩
 case round =>
  obtain ⟨t,done,rfl,hlen,hpre,hown,hbel⟩:=hrel;have HP:=aa hpre;clear hpre;have hcall:=fun (W:World)=>NC t c W (by omega);have hS:=Lr c (bl t);have hT:=Pi c (bl t);have hL:=TG c (bl t);generalize o6 c (bl t)=x at hcall hS hT hL;obtain ⟨p,q,b⟩:=x;simp only at hcall hS hT hL;have HC:=aa hcall;clear hcall;rw [aB] at hL
  cases b with
  | true =>
    have HS:=aa (hS rfl);have hL':=hL rfl;clear hS hT hL;go_wp2_with (first
        | (go_at_call 198;refine (HC.out _).mono ?_;rintro e w1 ⟨rfl,hb⟩;have hown1:=ownsRow_below hown hb;have IK:=hbel.trans (hb.mono hbel.size);have hzw:=IK.size)
        | (at_builtin;go_loud (refine wpList_append_own _ rfl _ _ 103 rfl w.heap.size 9 i0 (.string ByteArray.empty) 1 16 underlying103 hi hz0 hz1 hz2 rfl (by decide) _ _ _ rfl (hown1.alloc _) ⟨w1.heap.size,0,none⟩ 1 1 [.string (mkS p)] rfl rfl ?c1 ?c2 ?c3 ?c4 ?c5 ?_)))
    case c1=>exact cell_one_new _ _ _
    case c2=>simp [Value.oneCell']
    case c3=>unfold maxLen;omega
    case c4=>omega
    case c5=>simp;omega
    intro v' w2 hown2 hgrow _;have rP:=(IK.alloc hzw (Obj.cells #[.string (mkS p)] 9)).grown hgrow (by simp;omega) (fun k hk=>(hown1.lt k hk).1);go_wp2;go_roundw
    case rel=>exact ⟨mkS q,done++[p],rfl,by simp [lV];omega,by rw [HP.out,HS.out];simp [mO],by simpa [ni] using hown2,rP⟩
    case measure=>simp [strLen,lV];omega
  | false =>
    have HS:=aa (hT rfl);clear hS hT hL;go_wp2_with (first
        | (go_at_call 198;refine (HC.out _).mono ?_;rintro e w1 ⟨rfl,hb⟩;have hown1:=ownsRow_below hown hb;have IK:=hbel.trans (hb.mono hbel.size);have hzw:=IK.size)
        | (at_builtin;go_loud (refine wpList_append_own _ rfl _ _ 103 rfl w.heap.size 9 i0 (.string ByteArray.empty) 1 16 underlying103 hi hz0 hz1 hz2 rfl (by decide) _ _ _ rfl (hown1.alloc _) ⟨w1.heap.size,0,none⟩ 1 1 [.string (mkS p)] rfl rfl ?d1 ?d2 ?d3 ?d4 ?d5 ?_)))
    case d1=>exact cell_one_new _ _ _
    case d2=>simp [Value.oneCell']
    case d3=>unfold maxLen;omega
    case d4=>omega
    case d5=>simp;omega
    intro v' w2 hown2 hgrow _;have rP:=(IK.alloc hzw (Obj.cells #[.string (mkS p)] 9)).grown hgrow (by simp;omega) (fun k hk=>(hown1.lt k hk).1);go_wp2;go_ret;exact ⟨_,rfl,by rw [HP.out,HS.out];simpa [ni] using hown2,rP⟩
theorem OB (l:Bytes) (k:Nat) (h:k<l.length):(dH (l.take k)++l.drop k).set k (lowerB l[k])=dH (l.take (k+1))++l.drop (k+1):=by
 rw [List.set_append_right _ _ (by simp [dH];omega)];have e:k - (dH (l.take k)).length=0:=by simp [dH];omega
 rw [e,List.drop_eq_getElem_cons h,List.set_cons_zero,List.take_succ_eq_append_getElem h];simp only [dH,List.map_append,List.map_cons,List.map_nil,List.append_assoc,List.singleton_append]
theorem OC (l:Bytes) (k:Nat) (h:k<l.length):(dH (l.take k)++l.drop k)[k]?=some l[k]:=by
 rw [List.getElem?_append_right (by simp [dH];omega)];simp [dH,Nat.min_eq_left (Nat.le_of_lt h)]
theorem PP (s:ByteArray) (w:World) (hs:s.size<=1073741824) :
 Calls prog 193 #[.string s] w fun e w'=>e=.returned (.string (mkS (dH (bl s))))/\Below w.heap.size w w':=by
 obtain ⟨cap,w1,hconv,hb1,hz1,hcap,hby,hfr⟩:=Jd (P:=prog) 9 54 5 underlying9 underlying54 underlying5 w s;go_enter func193,ntmps193;go_wp2;clear hconv;go_loopw [4,9] (fun _ i wr=>∃ k:Nat,k<=s.size/\i=.int .i64 k/\BytesAt wr w.heap.size 0 (dH ((bl s).take k)++(bl s).drop k)/\FreeAt wr w.heap.size 0 s.size/\Below w.heap.size w wr) (fun _ i _=>s.size - (intOf i).toNat)
 case atStart=>exact ⟨0,Nat.zero_le _,rfl,by simpa [dH] using hby,hfr,hb1⟩
 case round =>
  obtain ⟨k,hk,rfl,hba,hfa,hbel⟩:=hrel;by_cases hlt:k<s.size
  ·have hlt':k<(bl s).length:=hlt
   have hll:(dH ((bl s).take k)++(bl s).drop k).length=s.size:=by simp [dH,aB];omega
   have hgk:=OC (bl s) k hlt';have hck:wr.cell? ⟨w.heap.size,k,none⟩=some (.int .u8 (bl s)[k].toNat):=by
        have:=hba k (by omega);rw [av] at this;rw [this];have h2:=(List.getElem?_eq_some_iff.1 hgk).2;rw [h2]
   have hfk:wr.frozen? ⟨w.heap.size,k,none⟩=false:=by have:=hfa k hlt;rwa [av] at this
   have hset:=hba.set (k:=k) (by omega) (lowerB (bl s)[k]);rw [OB _ _ hlt',av] at hset;have hfs:=hfa.set ⟨w.heap.size,k,none⟩ (.int .u8 (lowerB (bl s)[k]).toNat);have hbs:=hbel.setCell (p:=⟨w.heap.size,k,none⟩) (aq _) (.int .u8 (lowerB (bl s)[k]).toNat);clear hgk hll;generalize (bl s)[k]=x at *;clear hlt';have HS:=aa hset;have HF:=aa hfs;have HB:=aa hbs;clear hset hfs hbs hba hfa hbel;go_wp2_with (go_at_call 237;refine (OD _ _).mono ?_;rintro e w2 ⟨rfl,rfl⟩)
   go_roundw
   case rel=>exact ⟨k+1,by omega,by go_num,HS.out,HF.out,HB.out⟩
   case measure=>simp [intOf];omega
  ·have hke:k=s.size:=by omega
   subst hke;rw [List.take_of_length_le (by simp [aB]),List.drop_eq_nil_of_le (by simp [aB]),List.append_nil] at hba;have hback:=run_convert_bytes_back (P:=prog) wr 54 9 5 ⟨w.heap.size,0,none⟩ cap (dH (bl s)) underlying54 underlying5 underlying9 (fun j hj=>by
        have h2:=hba j hj;rw [av] at h2;unfold Addr.add;split
        ·rename_i h0;subst h0;exact h2
        ·simpa using h2)
   have hlen:(dH (bl s)).length=s.size:=by simp [dH,aB]
   rw [hlen] at hback;have HB:=aa hbel;clear hlen hba hfa hbel;go_wp2;go_ret;exact ⟨rfl,HB.out⟩
theorem qy {n:Int} {c:UInt8} (h0:0<=n) (hc:isDigit c=true):0<=dP n c/\dP n c<=1099511627776:=by
 unfold isDigit at hc;simp at hc;unfold dP;omega
theorem IW:∀ (l:Bytes) (n:Int),0<=n->n<=1099511627776->l.all isDigit=true->0<=l.foldl dP n/\l.foldl dP n<=1099511627776
 | [],n,h0,h1,_=>⟨h0,h1⟩
 | c :: r,n,h0,_,hl=>by
   simp only [List.all_cons,Bool.and_eq_true] at hl;have:=qy h0 hl.1;exact IW r _ this.1 this.2 hl.2
theorem wC (l:Bytes) (h:l.all isDigit=true):0<=kw l/\kw l<=1099511627776:=IW l 0 (by omega) (by omega) h
theorem uK {t:ByteArray} (h:(bl t).all isDigit=true) {k:Nat} (hk:k<t.size):isDigit t[k]=true :=
 List.all_eq_true.1 h _ (by show t.data[k]∈t.data.toList;simp)
theorem Ic (c:UInt8) (r:Bytes) (h:c.toNat=45):number (c :: r)=if 0<r.length/\r.all isDigit=true then (- kw r,true) else (0,false):=by
 unfold number;simp only [h,if_true]
 cases r with
 | nil=>simp
 | cons a b =>
   by_cases ha:(a :: b).all isDigit=true
   ·rw [if_neg (by simp only [ha];simp),if_pos ⟨by simp,ha⟩]
   ·rw [if_pos (ba ha),if_neg (fun x=>ha x.2)]
theorem Ib (c:UInt8) (r:Bytes) (h:¬ c.toNat=45):number (c :: r)=if (c :: r).all isDigit=true then (kw (c :: r),true) else (0,false):=by
 unfold number;simp only [h,if_false];by_cases ha:(c :: r).all isDigit=true
 ·rw [if_neg (fun x=>x ha),if_pos ha]
 ·rw [if_pos ha,if_neg ha]
theorem Bl (s t:ByteArray) (h0:0<s.size) (h:s[0].toNat=45) (ht:t=s.extract 1 s.size):number (bl s)=if 0<t.size/\(bl t).all isDigit=true then (- kw (bl t),true) else (0,false):=by
 have e:bl s=s[0] :: (bl s).drop 1:=by have:=drop_cons s 0 h0;simpa using this
 have e2:bl t=(bl s).drop 1:=by rw [ht,gy,List.take_of_length_le (by simp [aB])]
 rw [<- aB t,e2,e,Ic _ _ h];rfl
theorem qx (s:ByteArray) (h:¬ (0<s.size/\∀ h:0<s.size,s[0].toNat=45)):number (bl s)=if 0<s.size/\(bl s).all isDigit=true then (kw (bl s),true) else (0,false):=by
 by_cases h0:0<s.size
 ·have e:bl s=s[0] :: (bl s).drop 1:=by have:=drop_cons s 0 h0;simpa using this
  have h45:¬ s[0].toNat=45:=fun hh=>h ⟨h0,fun _=>hh⟩;rw [e,Ib _ _ h45,<- e];by_cases ha:(bl s).all isDigit=true
  ·rw [if_pos ha,if_pos ⟨h0,ha⟩]
  ·rw [if_neg ha,if_neg (fun x=>ha x.2)]
 ·rw [if_neg (fun x=>h0 x.1),uY h0];rfl
theorem z12 {p : Prop} (h : p := by
 have hdl := pW (bl t)
 rw [aB] at hdl
 by_cases hall : (bl t).all isDigit = true
 ·have hnl : ¬ digits (bl t) < t.size := fun h => (eH (bl t)).1 (by rw [aB]; exact h) hall
  have hge : (t.size : Int) <= (digits (bl t) : Int) := by omega
  have HA := aa hall
  have hnb := wC (bl t) hall
  clear hall hnl
  go_enter func267, ntmps267
  go_wp2_with (go_at_call 268; refine (vg _ _ (by unfold maxLen; omega)).mono ?_; rintro e w1 ⟨rfl, rfl⟩)
  go_loop [6, 7, 29] (fun v _ i => ∃ (k : Nat) (n : Int), k <= t.size /\ i = .int .i64 k /\ v = .int .i64 n /\ 0 <= n /\ n <= 1099511627776 /\ kw (bl t) = ((bl t).drop k).foldl dP n) (fun _ _ i => t.size - (intOf i).toNat)
  case atStart => exact ⟨0, 0, Nat.zero_le _, rfl, rfl, by omega, by omega, rfl⟩
  case round =>
   obtain ⟨k, n, hk, rfl, rfl, hn0, hn1, hpre⟩ := hrel
   have HP := aa hpre
   clear hpre
   by_cases hlt : k < t.size
   ·have HD := aa (drop_cons t k hlt)
    have hdg := uK HA.out hlt
    have hbd := qy hn0 hdg
    have O0 : 48 <= t[k].toNat /\ t[k].toNat <= 57 := by simpa [isDigit] using hdg
    obtain ⟨hg1, hg2⟩ := O0
    have HN : Hid (dP n t[k] = min (n * 10 + ((t[k].toNat : Int) - 48)) 1099511627776) := rfl
    clear hdg
    go_wp2
    go_round
    case rel => exact ⟨k + 1, dP n t[k], by omega, by go_num, by rw [HN.out]; exact congrArg _ (by split <;> omega), hbd.1, hbd.2, by rw [HP.out, HD.out]; rfl⟩
    case measure => simp [intOf]; omega
   ·have HD := aa (jd t k hlt)
    have HE : Hid (kw (bl t) = n) := by rw [Hid, HP.out, HD.out]; rfl
    go_wp2
    go_ret2
    exact ⟨jH (by rw [HV.out, if_pos ⟨h0t, HA.out⟩, HE.out]; rfl), rfl⟩
 ·have hnl : digits (bl t) < t.size := by have := (eH (bl t)).2 hall; rwa [aB] at this
  have HA := aa hall
  clear hall
  go_enter func267, ntmps267
  go_wp2_with (go_at_call 268; refine (vg _ _ (by unfold maxLen; omega)).mono ?_; rintro e w1 ⟨rfl, rfl⟩)
  go_ret2
  exact ⟨jH (by rw [HV.out, if_neg (fun h => HA.out h.2)]; rfl), rfl⟩) : p := h
theorem z114 {p : Prop} (h : p := by
 have he := lH h0t
 have he' := nO h0t
 go_enter func267, ntmps267
 go_wp2
 go_ret2
 exact ⟨jH (by rw [HV.out, if_neg (fun h => h0t h.1)]; rfl), rfl⟩) : p := h
theorem L8 (s:ByteArray) (w:World) (hs:s.size<=1073741824) :
 Calls prog 267 #[.string s] w fun e w'=>e=.returned (.tuple #[.int .i64 (number (bl s)).1,.bool (number (bl s)).2])/\w=w':=by
 by_cases hneg:0<s.size/\∀ h:0<s.size,s[0].toNat=45
 ·obtain ⟨h0,h45⟩:=hneg
  have h45':=h45 h0;have hq:((s[0].toNat:Int) == 45)=true:=by simp;omega
  have hse:=mr h0;have hse':=lI h0;obtain ⟨t,ht⟩:∃ t,t=s.extract 1 s.size:=⟨_,rfl⟩;have HV:=aa (Bl s t h0 h45' ht);have hts:t.size<=s.size:=by rw [ht];simp
  have hx:s.extract 1 s.size=t:=ht.symm;clear h45 h45' ht;by_cases h0t:0<t.size
  ·have he:=mr h0t
   have he':=lI h0t;skip
   exact z12
  ·exact z114
 ·have HV:=aa (qx s hneg)
  have hqq:Hid (∀ h:0<s.size,((s[0].toNat:Int) == 45)=false):=fun h=>by
   have:¬ s[0].toNat=45:=fun hh=>hneg ⟨h,fun _=>hh⟩;simp;omega
  clear hneg;have hts:s.size<=s.size:=aq _;obtain ⟨t,rfl⟩:∃ t,t=s:=⟨_,rfl⟩;by_cases h0t:0<t.size
  ·have he:=mr h0t
   have he':=lI h0t;have hq:=hqq.out h0t
   exact z12
  ·exact z114
end Go.Proofs.YthphepeniaemoaaGreat
