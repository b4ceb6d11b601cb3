/- The reference of package ascii (biscottiref06) computes the plain functions of Defs. Conditions: texts of at most 2^30 bytes. -/
import Derived.Test.YthphepeniaemoaaGreatAscii
set_option linter.unusedSimpArgs false
set_option linter.unusedVariables false
set_option linter.unnecessarySimpa false
set_option maxHeartbeats 16000000
set_option maxRecDepth 100000
open Go.Proofs.Tryz
namespace Go.Proofs.YthphepeniaemoaaGreat
open Go.RowKit
theorem FN (s:ByteArray) (w:World) (hs:s.size<=maxLen) :
 Calls prog 244 #[.string s] w fun e w'=>e=.returned (.bool (control (bl s)))/\w=w':=by
 unfold maxLen at hs;go_enter func244,ntmps244;go_wp2;go_loop [3,4] (fun v i=>∃ (k:Nat) (b:Bool),k<=s.size/\i=.int .i64 k/\v=.bool b/\control (bl s)=(b || control ((bl s).drop k))) (fun _ i=>s.size - (intOf i).toNat)
 case atStart=>exact ⟨0,false,Nat.zero_le _,rfl,rfl,by simp⟩
 case round =>
  obtain ⟨k,b,hk,rfl,rfl,hpre⟩:=hrel;have HP:=aq hpre;clear hpre;by_cases hlt:k<s.size
  ·have HD:=aq (drop_cons s k hlt)
   cases b with
   | true =>
     have HY:Hid (control (bl s)=(true || control ((bl s).drop (k+1)))):=by rw [Hid,HP.out];simp
     go_wp2;go_round
     case rel=>exact ⟨k+1,true,by omega,by go_num,rfl,HY.out⟩
     case measure=>simp [intOf];omega
   | false =>
     have HY:Hid (∀ b,BJ s[k]=b->control (bl s)=(b || control ((bl s).drop (k+1)))):=fun b h=>by rw [HP.out,HD.out,<- h];simp [control]
     go_wp2;all_goals
      go_round
      case rel=>exact ⟨k+1,_,by omega,by go_num,rfl,HY.out _ (by unfold BJ;rw [Bool.eq_iff_iff];simp;(first | omega | (simp only [beq_iff_eq,beq_eq_false_iff_ne,ne_eq,bne_iff_ne,bne_eq_false_iff_eq,decide_eq_true_eq,decide_eq_false_iff_not,Bool.not_eq_eq_eq_not,Bool.not_true,Bool.not_false] at *;omega)))⟩
      case measure=>simp [intOf];omega
  ·exact z140
theorem Eh (s:ByteArray) (c:UInt8) (w:World) (hs:s.size<=maxLen) :
 Calls prog 201 #[.string s,.int .u8 c.toNat] w fun e w'=>e=.returned (.int .i64 (kU (bl s) c))/\w=w':=by
 unfold maxLen at hs;go_enter func201,ntmps201;go_wp2;go_loop [5] (fun i=>∃ k:Nat,k<=s.size/\i=.int .i64 k/\kU (bl s) c=jv k ((bl s).drop k) c) (fun i=>s.size - (intOf i).toNat)
 case atStart=>exact ⟨0,Nat.zero_le _,rfl,by simp [uU]⟩
 case round =>
  obtain ⟨k,hk,rfl,hpre⟩:=hrel;have HP:=aq hpre;clear hpre;by_cases hlt:k<s.size
  ·have HD:=aq (drop_cons s k hlt)
   by_cases h1:(s[k].toNat:Int)=c.toNat
   ·have h2:((s[k].toNat:Int) == (c.toNat:Int))=true:=by simp [h1]
    have H1:=aq h1;clear h1;go_wp2;go_ret;exact ⟨eH (by rw [HP.out,HD.out,qx H1.out]),rfl⟩
   ·have h2:((s[k].toNat:Int) == (c.toNat:Int))=false:=by simp;omega
    have H1:=aq h1;clear h1;go_wp2;go_round
    case rel=>exact ⟨k+1,by omega,by go_num,by rw [HP.out,HD.out,qw H1.out]⟩
    case measure=>simp [intOf];omega
  ·have HD:=aq (iH s k hlt)
   go_wp2;go_ret;exact ⟨eH (by rw [HP.out,HD.out,xB]),rfl⟩
theorem o8 (s:ByteArray) (w:World) (hs:s.size<=maxLen) :
 Calls prog 288 #[.string s] w fun e w'=>e=.returned (.int .i64 (digits (bl s)))/\w=w':=by
 unfold maxLen at hs;go_enter func288,ntmps288;go_wp2;go_loop [3,4] (fun v i=>∃ k n:Nat,k<=s.size/\i=.int .i64 k/\v=.int .i64 n/\n<=k/\digits (bl s)=if n=k then n+digits ((bl s).drop k) else n) (fun _ i=>s.size - (intOf i).toNat)
 case atStart=>exact ⟨0,0,Nat.zero_le _,rfl,rfl,ar _,by simp⟩
 case round =>
  obtain ⟨k,n,hk,rfl,rfl,hn,hpre⟩:=hrel;have HP:=aq hpre;clear hpre;by_cases hlt:k<s.size
  ·have HD:=aq (drop_cons s k hlt)
   by_cases hnk:n=k
   ·subst hnk
    have HY:Hid (isDigit s[n]=true->digits (bl s)=if n+1=n+1 then n+1+digits ((bl s).drop (n+1)) else n+1):=fun h=>by rw [HP.out,HD.out];simp [digits,h];omega
    have HN:Hid (isDigit s[n]=false->digits (bl s)=if n=n+1 then n+digits ((bl s).drop (n+1)) else n):=fun h=>by rw [HP.out,HD.out];simp [digits,h]
    go_wp2;all_goals
     go_round
     case rel =>
      first
          | exact ⟨n+1,n+1,by omega,by go_num,by go_num,by omega,HY.out (by unfold isDigit;simp;omega)⟩
          | exact ⟨n+1,n,by omega,by go_num,rfl,by omega,HN.out (by unfold isDigit;rw [Bool.eq_iff_iff];simp;omega)⟩
     case measure=>simp [intOf];omega
   ·have h2:((n:Int) == (k:Int))=false:=by simp;omega
    have HY:Hid (digits (bl s)=if n=k+1 then n+digits ((bl s).drop (k+1)) else n):=by rw [Hid,HP.out,if_neg hnk,if_neg (by omega)]
    clear hnk;go_wp2;go_round
    case rel=>exact ⟨k+1,n,by omega,by go_num,rfl,by omega,HY.out⟩
    case measure=>simp [intOf];omega
  ·exact z143
theorem zH (s:ByteArray) (k:Nat) (h:k<s.size) (hb:gz s[k]=true):lS ((bl s).drop k)=lS ((bl s).drop (k+1)):=by
 unfold lS;rw [drop_cons s k h,List.dropWhile_cons,if_pos hb]
theorem zG (s:ByteArray) (k:Nat) (h:k<s.size) (hb:gz s[k]=false):lS ((bl s).drop k)=(bl s).drop k:=by
 unfold lS;rw [drop_cons s k h,List.dropWhile_cons,hb];simp
theorem rZ (s:ByteArray) (f k:Nat) (h:k<s.size) (hf:f<=k):((bl s).take (k+1)).drop f=((bl s).take k).drop f++[s[k]]:=by
 rw [List.take_succ_eq_append_getElem (by simpa [aB] using h),List.drop_append_of_le_length (by simp [aB];omega)];rfl
theorem ND (s:ByteArray) (w:World) (hs:s.size<=maxLen) :
 Calls prog 245 #[.string s] w fun e w'=>e=.returned (.string (mkS (trim (bl s))))/\w=w':=by
 unfold maxLen at hs;go_enter func245,ntmps245;go_upto_block 0 with fail
 go_cut [3] (fun v wx=>∃ f:Nat,f<=s.size/\v=.int .i64 f/\(bl s).drop f=lS (bl s)/\wx=w)
 case first =>
  go_wp2;go_loop [3] (fun v=>∃ k:Nat,k<=s.size/\v=.int .i64 k/\lS ((bl s).drop k)=lS (bl s)) (fun v=>s.size - (intOf v).toNat)
  case atStart=>exact ⟨0,Nat.zero_le _,rfl,by simp⟩
  case round =>
   obtain ⟨k,hk,rfl,hpre⟩:=hrel;have HP:=aq hpre;clear hpre;by_cases hlt:k<s.size
   ·have HY:=aq (zH s k hlt)
    have HN:=aq (zG s k hlt);go_wp2;all_goals first
     | (go_meet;exact ⟨k,hk,rfl,by rw [<- HP.out,HN.out (by unfold gz;rw [Bool.eq_iff_iff];simp;(first | omega | (simp only [beq_iff_eq,beq_eq_false_iff_ne,ne_eq,bne_iff_ne,bne_eq_false_iff_eq,decide_eq_true_eq,decide_eq_false_iff_not,Bool.not_eq_eq_eq_not,Bool.not_true,Bool.not_false] at *;omega)))],rfl⟩)
     | (go_round
        case rel=>exact ⟨k+1,by omega,by go_num,by rw [<- HP.out,HY.out (by unfold gz;simp;(first | omega | (simp only [beq_iff_eq,beq_eq_false_iff_ne,ne_eq,bne_iff_ne,bne_eq_false_iff_eq,decide_eq_true_eq,decide_eq_false_iff_not,Bool.not_eq_eq_eq_not,Bool.not_true,Bool.not_false] at *;omega)))]⟩
        case measure=>simp [intOf];omega)
   ·have HD:=aq (iH s k hlt)
    go_wp2;go_meet;exact ⟨k,hk,rfl,by rw [<- HP.out,HD.out];rfl,rfl⟩
 case rest =>
  obtain ⟨f,hf,rfl,h0,rfl⟩:=hcut;have H0:=aq h0;clear h0;go_wp2;go_loop [4] (fun v=>∃ k:Nat,f<=k/\k<=s.size/\v=.int .i64 k/\rP (((bl s).take k).drop f)=trim (bl s)) (fun v=>(intOf v).toNat)
  case atStart=>exact ⟨s.size,hf,ar _,rfl,by rw [List.take_of_length_le (by simp [aB]),H0.out];rfl⟩
  case round =>
   obtain ⟨k,hfk,hk,rfl,hpre⟩:=hrel;have HP:=aq hpre;clear hpre;by_cases hlt:f<k
   ·obtain ⟨j,rfl⟩:∃ j,k=j+1:=⟨k - 1,by omega⟩
    have hsn:=rZ s f j (by omega) (by omega);have HY:Hid (gz s[j]=true->rP (((bl s).take j).drop f)=trim (bl s)):=fun h=>by rw [<- HP.out,hsn,qF,if_pos h]
    have HN:Hid (gz s[j]=false->((bl s).take (j+1)).drop f=trim (bl s)):=fun h=>by rw [<- HP.out,hsn,qF,h];simp
    clear hsn;have e1:(((j+1:Nat):Int) - 1)=(j:Int):=by omega
    have e2:((j+1:Nat):Int)=(j:Int)+1:=by omega
    simp only [e2];have e3:(j:Int)+1 - 1=(j:Int):=by omega
    clear e1 e2;go_wp2;all_goals first
     | (go_ret;exact ⟨jC (congrArg Value.string (qU (by rw [gu,<- HN.out (by unfold gz;rw [Bool.eq_iff_iff];simp;(first | omega | (simp only [beq_iff_eq,beq_eq_false_iff_ne,ne_eq,bne_iff_ne,bne_eq_false_iff_eq,decide_eq_true_eq,decide_eq_false_iff_not,Bool.not_eq_eq_eq_not,Bool.not_true,Bool.not_false] at *;omega)))]))),rfl⟩)
     | (go_round
        case rel=>exact ⟨j,by omega,by omega,by go_num,HY.out (by unfold gz;simp;(first | omega | (simp only [beq_iff_eq,beq_eq_false_iff_ne,ne_eq,bne_iff_ne,bne_eq_false_iff_eq,decide_eq_true_eq,decide_eq_false_iff_not,Bool.not_eq_eq_eq_not,Bool.not_true,Bool.not_false] at *;omega)))⟩
        case measure=>simp [intOf] <;> omega)
   ·have hkf:k=f:=by omega
    subst hkf;go_wp2;go_ret;exact ⟨jC (congrArg Value.string (qU (by rw [<- HP.out];simp [rP]))),rfl⟩
/-- a beginning put ahead of the first part -/
def oG (p:Bytes):List Bytes->List Bytes
 | []=>[p]
 | h :: t=>(p++h) :: t
theorem BV (c:UInt8) (l:Bytes):oG [] (splitB c l)=splitB c l:=by
 cases h:splitB c l with
 | nil=>exact absurd h (jB c l)
 | cons a b=>simp [oG]
theorem IC (c x:UInt8) (p r:Bytes) (h:¬ (x.toNat:Int)=c.toNat):oG p (splitB c (x :: r))=oG (p++[x]) (splitB c r):=by
 have h':¬ x.toNat=c.toNat:=fun e=>h (by rw [e]);rw [splitB,if_neg h']
 cases hs:splitB c r with
 | nil=>exact absurd hs (jB c r)
 | cons a b=>simp [oG]
theorem KN (c x:UInt8) (p r:Bytes) (h:(x.toNat:Int)=c.toNat):oG p (splitB c (x :: r))=p :: splitB c r:=by
 have h':x.toNat=c.toNat:=by omega
 rw [splitB,if_pos h'];simp [oG]
theorem z67 {p : Prop} (h : p := by simp [intOf] <;> omega) : p := h
theorem AB (s:ByteArray) (c:UInt8) (w:World) (hs:s.size<=1073741824) :
 Calls prog 270 #[.string s,.int .u8 c.toNat] w (MW 9 (splitB c (bl s)) w):=by
 obtain ⟨i0,hi,hz0,hz1,hz2⟩:=info_parts Tryz.infoStr;go_enter func270,ntmps270;go_wp2;go_loopw [5,6,7] (fun out vf vk wr=>∃ (k f:Nat) (done:List Bytes),f<=k/\k<=s.size/\vf=.int .i64 f/\vk=.int .i64 k/\done.length<=k/\splitB c (bl s)=done++oG (((bl s).take k).drop f) (splitB c ((bl s).drop k))/\wr.ownsRow w.heap.size 9 1 out done.length (mQ done)/\Below w.heap.size w wr) (fun _ _ v _=>s.size - (intOf v).toNat)
 case atStart=>exact ⟨0,0,[],ar _,Nat.zero_le _,rfl,rfl,ar _,by simp [BV],World.ownsRow_made _ _ _ (ar _) (by decide) rfl,(bh _ _).alloc (ar _) _⟩
 case round =>
  obtain ⟨k,f,done,hfk,hk,rfl,rfl,hlen,hpre,hown,hbel⟩:=hrel;have HP:=aq hpre;clear hpre;have hzw:=hbel.size;by_cases hlt:k<s.size
  ·have HD:=aq (drop_cons s k hlt)
   have HS:=aq (rZ s f k hlt hfk);by_cases h1:(s[k].toNat:Int)=c.toNat
   ·have h2:((s[k].toNat:Int) == (c.toNat:Int))=true:=by simp [h1]
    have HY:Hid (splitB c (bl s)=(done++[((bl s).take k).drop f])++oG [] (splitB c ((bl s).drop (k+1)))):=by
     rw [Hid,HP.out,HD.out,KN _ _ _ _ h1,BV];simp
    have HX:=aq (qU (gu s f k));clear h1;go_wp2_with (at_builtin;go_loud (refine wpList_append_own _ rfl _ _ 103 rfl w.heap.size 9 i0 (.string ByteArray.empty) 1 16 underlying103 hi hz0 hz1 hz2 rfl (by decide) _ _ _ rfl (hown.alloc _) ⟨wr.heap.size,0,none⟩ 1 1 [.string (s.extract f k)] rfl rfl ?c1 ?c2 ?c3 ?c4 ?c5 ?_))
    case c1=>exact cell_one_new _ _ _
    case c2=>simp [Value.oneCell']
    case c3=>unfold maxLen;omega
    case c4=>omega
    case c5=>simp;omega
    intro v' w2 hown2 hgrow _;have lm:=(hbel.alloc hzw (Obj.cells #[.string (s.extract f k)] 9)).grown hgrow (by simp;omega) (fun j hj=>(hown.lt j hj).1);go_wp2;go_roundw
    case rel=>exact ⟨k+1,k+1,done++[((bl s).take k).drop f],ar _,by omega,by go_num,by go_num,by simp;omega,by rw [HY.out];congr 2;simp,by rw [HX.out] at hown2;simpa [mQ] using hown2,lm⟩
    case measure => exact z67
   ·have h2:((s[k].toNat:Int) == (c.toNat:Int))=false:=by simp;omega
    have HY:Hid (splitB c (bl s)=done++oG (((bl s).take (k+1)).drop f) (splitB c ((bl s).drop (k+1)))):=by
     rw [Hid,HP.out,HD.out,IC _ _ _ _ h1,HS.out]
    clear h1;go_wp2;go_roundw
    case rel=>exact ⟨k+1,f,done,by omega,by omega,rfl,by go_num,by omega,HY.out,hown,hbel⟩
    case measure => exact z67
  ·have hks:k=s.size:=by omega
   subst hks;have HX:=aq (qU (gu s f s.size));have HY:Hid (splitB c (bl s)=done++[((bl s).take s.size).drop f]):=by
        rw [Hid,HP.out,iH s s.size (by omega)];simp [splitB,oG]
   go_wp2_with (at_builtin;go_loud (refine wpList_append_own _ rfl _ _ 103 rfl w.heap.size 9 i0 (.string ByteArray.empty) 1 16 underlying103 hi hz0 hz1 hz2 rfl (by decide) _ _ _ rfl (hown.alloc _) ⟨wr.heap.size,0,none⟩ 1 1 [.string (s.extract f s.size)] rfl rfl ?d1 ?d2 ?d3 ?d4 ?d5 ?_))
   case d1=>exact cell_one_new _ _ _
   case d2=>simp [Value.oneCell']
   case d3=>unfold maxLen;omega
   case d4=>omega
   case d5=>simp;omega
   intro v' w2 hown2 hgrow _;have lm:=(hbel.alloc hzw (Obj.cells #[.string (s.extract f s.size)] 9)).grown hgrow (by simp;omega) (fun j hj=>(hown.lt j hj).1);go_wp2;go_ret;exact ⟨_,rfl,by rw [HY.out];rw [HX.out] at hown2;simpa [mQ] using hown2,lm⟩
theorem z80 {p : Prop} (h : p := by
 clear hall htl hts hdl
 go_enter func289, ntmps289
 go_wp2_with (go_at_call 288; go_loud (refine (o8 _ _ (by unfold maxLen; omega)).mono ?_); rintro e w1 ⟨rfl, rfl⟩)
 go_ret2
 exact ⟨jC (by rw [HV.out _ HT.out, if_neg (fun h => HA.out h.2)]; rfl), rfl⟩) : p := h
theorem z137 {p : Prop} (h : p := by
 go_wp2
 go_ret2
 exact ⟨jC (by rw [HV.out _ HT.out, if_pos ⟨hfs, HA.out⟩, HE.out]; rfl), rfl⟩) : p := h
theorem z127 {p : Prop} (h : p := by exact ⟨k + 1, dY n s[k], by omega, by omega, by go_num, by rw [HN.out]; exact congrArg _ (by omega), hbd.1, hbd.2, by rw [HP.out, HD.out]; rfl⟩) : p := h
theorem y51 {p q : Prop} (k : q) (h : PLift q -> p := by
 intro kk
 have HD := aq (drop_cons s k hlt)
 have hdg := HH.out k hlt hfk
 have hbd := qR hn0 hdg
 have OA : 48 <= s[k].toNat /\ s[k].toNat <= 57 := by simpa [isDigit] using hdg
 obtain ⟨hg1, hg2⟩ := OA
 have HN : Hid (dY n s[k] = min (n * 10 + ((s[k].toNat : Int) - 48)) 1099511627776) := rfl
 revert HD hdg hbd OA hg1 hg2 HN
 exact kk.down) : p := h ⟨k⟩
theorem G5 (s:ByteArray) (w:World) (hs:s.size<=1073741824) :
 Calls prog 289 #[.string s] w fun e w'=>e=.returned (.tuple #[.int .i64 (number (bl s)).1,.bool (number (bl s)).2])/\w=w':=by
 by_cases hneg:0<s.size/\∀ h:0<s.size,s[0].toNat=45
 ·obtain ⟨h0,h45⟩:=hneg
  have h45':=h45 h0;have hq:((s[0].toNat:Int) == 45)=true:=by simp;omega
  have HV:Hid (∀ t:ByteArray,bl t=(bl s).drop 1->number (bl s)=if 1<s.size/\(bl t).all isDigit=true then (- jW (bl t),true) else (0,false)):=fun t ht=>by
   have h2:=Bf s (s.extract 1 s.size) h0 h45' rfl;have h3:t=s.extract 1 s.size:=lI (by rw [ht,gu,List.take_of_length_le (by simp [aB])]);rw [h2,<- h3];have h4:t.size=s.size - 1:=by rw [<- aB t,ht];simp [aB]
   simp only [h4,show 0<s.size - 1↔1<s.size by omega]
  clear h45 h45';by_cases hfs:1<s.size
  ·have UL:((s.size:Int) == 1)=false:=beq_eq_false_iff_ne.2 (by omega)
   have htl:bl (s.extract 1 s.size)=(bl s).drop 1:=by rw [gu,List.take_of_length_le (by simp [aB])]
   have hts:(s.extract 1 s.size).size=s.size - 1:=by simp
   have hdl:=qB (bl (s.extract 1 s.size));rw [aB] at hdl;by_cases hall:(bl (s.extract 1 s.size)).all isDigit=true
   ·have hnl:¬ digits (bl (s.extract 1 s.size))<(s.extract 1 s.size).size:=fun h=>(eX (bl (s.extract 1 s.size))).1 (by rw [aB];exact h) hall
    have hge:(s.size:Int) - 1<=(digits (bl (s.extract 1 s.size)):Int):=by omega
    have HA:=aq hall;have hnb:=wY (bl (s.extract 1 s.size)) hall;have HT:=aq htl;have IG:∀ k (hk:k<s.size),1<=k->isDigit s[k]=true:=fun k hk hfk=>by
     have h1:=hall;rw [htl] at h1;refine List.all_eq_true.1 h1 _ ?_;rw [List.mem_drop_iff_getElem];refine ⟨k - 1,by simp [aB];omega,?_⟩;simp only [show 1+(k - 1)=k by omega];rfl
    have HH:=aq IG;have hle:(s.extract 1 s.size).size<=9223372036854775807:=by omega
    clear hall hnl IG htl hts hdl;go_enter func289,ntmps289;go_wp2_with (go_at_call 288;go_loud (refine (o8 _ _ (by unfold maxLen;omega)).mono ?_);rintro e w1 ⟨rfl,rfl⟩)
    go_loop [5,6] (fun v i=>∃ (k:Nat) (n:Int),1<=k/\k<=s.size/\i=.int .i64 k/\v=.int .i64 n/\0<=n/\n<=1099511627776/\jW (bl (s.extract 1 s.size))=((bl s).drop k).foldl dY n) (fun _ i=>s.size - (intOf i).toNat)
    case atStart=>exact ⟨1,0,by omega,by omega,rfl,rfl,by omega,by omega,by rw [HT.out];rfl⟩
    case round =>
     obtain ⟨k,n,hfk,hk,rfl,rfl,hn0,hn1,hpre⟩:=hrel;have HP:=aq hpre;clear hpre;by_cases hlt:k<s.size
     ·have HD := aq (drop_cons s k hlt)
      have hdg := HH.out k hlt hfk
      have hbd := qR hn0 hdg
      have OA : 48 <= s[k].toNat /\ s[k].toNat <= 57 := by simpa [isDigit] using hdg
      obtain ⟨hg1, hg2⟩ := OA
      have HN : Hid (dY n s[k] = min (n * 10 + ((s[k].toNat : Int) - 48)) 1099511627776) := rfl
      clear hdg
      go_wp2;all_goals
       go_round
       case rel => exact z127
       case measure => exact z67
     ·have HD:=aq (iH s k hlt)
      have HE:Hid (jW (bl (s.extract 1 s.size))=n):=by rw [Hid,HP.out,HD.out];rfl
      exact z137
   ·have hnl:digits (bl (s.extract 1 s.size))<(s.extract 1 s.size).size:=by have:=(eX (bl (s.extract 1 s.size))).2 hall;rwa [aB] at this
    have hlt2:(digits (bl (s.extract 1 s.size)):Int)<(s.size:Int) - 1:=by omega
    have HA:=aq hall;have HT:=aq htl;have hle:(s.extract 1 s.size).size<=9223372036854775807:=by omega
    exact z80
  ·have UL:((s.size:Int) == 1)=true:=beq_iff_eq.2 (by omega)
   go_enter func289,ntmps289;go_wp2;go_ret2;exact ⟨jC (by rw [HV.out (mkS ((bl s).drop 1)) rfl,if_neg (fun h=>hfs h.1)];rfl),rfl⟩
 ·have HV:Hid (∀ t:ByteArray,bl t=(bl s).drop 0->number (bl s)=if 0<s.size/\(bl t).all isDigit=true then (jW (bl t),true) else (0,false)):=fun t ht=>by
   rw [qQ s hneg,ht];rfl
  by_cases hs0:0<s.size
  ·have hq:((s[0].toNat:Int) == 45)=false:=by
        have:¬ s[0].toNat=45:=fun hh=>hneg ⟨hs0,fun _=>hh⟩;simp;omega
   clear hneg;by_cases hfs:0<s.size
   ·have UL:((s.size:Int) == 0)=false:=beq_eq_false_iff_ne.2 (by omega)
    have htl:bl s=(bl s).drop 0:=by rfl
    have hts:s.size=s.size - 0:=by simp
    have hdl:=qB (bl s);rw [aB] at hdl;by_cases hall:(bl s).all isDigit=true
    ·have hnl:¬ digits (bl s)<s.size:=fun h=>(eX (bl s)).1 (by rw [aB];exact h) hall
     have hge:¬ digits (bl s)<s.size:=by omega
     have HA:=aq hall;have hnb:=wY (bl s) hall;have HT:=aq htl;have IG:∀ k (hk:k<s.size),0<=k->isDigit s[k]=true:=fun k hk hfk=>by
          have h1:=hall;rw [htl] at h1;refine List.all_eq_true.1 h1 _ ?_;rw [List.mem_drop_iff_getElem];refine ⟨k - 0,by simp [aB];omega,?_⟩;simp only [show 0+(k - 0)=k by omega];rfl
     have HH:=aq IG;have hle:s.size<=9223372036854775807:=by omega
     clear hall hnl IG htl hts hdl;go_enter func289,ntmps289;go_wp2_with (go_at_call 288;go_loud (refine (o8 _ _ (by unfold maxLen;omega)).mono ?_);rintro e w1 ⟨rfl,rfl⟩)
     go_loop [5,6] (fun v i=>∃ (k:Nat) (n:Int),0<=k/\k<=s.size/\i=.int .i64 k/\v=.int .i64 n/\0<=n/\n<=1099511627776/\jW (bl s)=((bl s).drop k).foldl dY n) (fun _ i=>s.size - (intOf i).toNat)
     case atStart=>exact ⟨0,0,by omega,by omega,rfl,rfl,by omega,by omega,by rw [HT.out];rfl⟩
     case round =>
          obtain ⟨k,n,hfk,hk,rfl,rfl,hn0,hn1,hpre⟩:=hrel;have HP:=aq hpre;clear hpre;by_cases hlt:k<s.size
          ·have HD := aq (drop_cons s k hlt)
           have hdg := HH.out k hlt hfk
           have hbd := qR hn0 hdg
           have OA : 48 <= s[k].toNat /\ s[k].toNat <= 57 := by simpa [isDigit] using hdg
           obtain ⟨hg1, hg2⟩ := OA
           have HN : Hid (dY n s[k] = min (n * 10 + ((s[k].toNat : Int) - 48)) 1099511627776) := rfl
           clear hdg
           go_wp2;all_goals
             go_round
             case rel => exact z127
             case measure => exact z67
          ·have HD:=aq (iH s k hlt)
           have HE:Hid (jW (bl s)=n):=by rw [Hid,HP.out,HD.out];rfl
           exact z137
    ·have hnl:digits (bl s)<s.size:=by have:=(eX (bl s)).2 hall;rwa [aB] at this
     have hlt2:digits (bl s)<s.size:=by omega
     have HA:=aq hall;have HT:=aq htl;have hle:s.size<=9223372036854775807:=by omega
     exact z80
   ·have UL:((s.size:Int) == 0)=true:=beq_iff_eq.2 (by omega)
    go_enter func289,ntmps289;go_wp2;go_ret2;exact ⟨jC (by rw [HV.out (mkS ((bl s).drop 0)) rfl,if_neg (fun h=>hfs h.1)];rfl),rfl⟩
  ·clear hneg
   obtain rfl:s=ByteArray.empty:=lI (vV hs0);have HW:Hid (number (bl ByteArray.empty)=(0,false)):=rfl;clear HV hs0;go_enter func289,ntmps289;go_wp2;go_ret2;exact ⟨jC (by rw [HW.out];rfl),rfl⟩
theorem iJ (n:Nat) (h:n<10):kw n=[UInt8.ofNat (48+n)]:=by rw [kw,if_pos h]
theorem nD (n:Nat) (h:¬ n<10):kw n=kw (n / 10)++[UInt8.ofNat (48+n % 10)]:=by rw [kw,if_neg h]
theorem Nk (n:Nat):(kw n).length<=n+1:=by
 induction n using Nat.strongRecOn with
 | _ n ih =>
   by_cases h:n<10
   ·rw [iJ n h];simp
   ·rw [nD n h]
    have:=ih (n / 10) (by omega);simp only [av,List.length_cons,List.length_nil];omega
theorem I7 (w:World) (x:Int) (c:UInt8) (h:x=c.toNat) :
 (convert 54 9 (.slice (some ⟨w.heap.size,0,none⟩) 1 1)).run prog (w.alloc (Obj.cells #[.int .u8 x] 5))=.ok (.string ⟨#[c]⟩) (w.alloc (Obj.cells #[.int .u8 x] 5)) :=
 run_convert_bytes_back (P:=prog) _ 54 9 5 ⟨w.heap.size,0,none⟩ 1 [c] underlying54 underlying5 underlying9 (fun j hj=>by
  have:j=0:=by simp at hj;omega
  subst this;simp only [Addr.add,h];exact cell_one_new _ _ _ 0 _ rfl)
theorem NE (n:Nat) (w:World) (hn:n<=4611686018427387904) :
 Calls prog 290 #[.int .i64 n] w fun e w'=>e=.returned (.string (mkS (kw n)))/\Below w.heap.size w w':=by
 go_enter func290,ntmps290;go_wp2;go_loopw [0,3] (fun v out wr=>∃ (m:Nat) (t:ByteArray),m<=n/\v=.int .i64 m/\out=.string t/\kw n=kw m++bl t/\Below w.heap.size w wr) (fun v _ _=>(intOf v).toNat)
 case atStart=>exact ⟨n,ByteArray.empty,ar _,rfl,rfl,by simp [bl],bh _ _⟩
 case round =>
  obtain ⟨m,t,hm,rfl,rfl,hpre,hbel⟩:=hrel;have HP:=aq hpre;have htl:t.size<=4611686018427387905:=by
   have h1:=congrArg List.length hpre;have h2:=Nk n;rw [av,aB] at h1;omega
  clear hpre;by_cases h9:m<10
  ·have HT:=aq (iJ m h9)
   have hcv:=I7 wr (48+(m:Int)) (UInt8.ofNat (48+m)) (by rw [UInt8.toNat_ofNat'];omega);go_wp2;clear hcv;go_ret;exact ⟨jC (congrArg Value.string (qU (by rw [HP.out,HT.out];simp [bl]))),hbel.alloc hbel.size _⟩
  ·have HT:=aq (nD m h9)
   have hcv:=I7 wr (48+(m:Int) % 10) (UInt8.ofNat (48+m % 10)) (by rw [UInt8.toNat_ofNat'];omega);go_wp2;clear hcv;go_roundw
   case rel=>exact ⟨m / 10,_,by omega,by go_num,rfl,by rw [HP.out,HT.out];simp [bl],hbel.alloc hbel.size _⟩
   case measure => exact z67
end Go.Proofs.YthphepeniaemoaaGreat
