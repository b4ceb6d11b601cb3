/- Package host and its reference compute the plain functions of Defs. Conditions: texts of at most 2^30 bytes. -/
import Derived.Test.YthphepeniaemoaaGreatRefA
set_option linter.unusedSimpArgs false
set_option linter.unusedVariables false
set_option linter.unnecessarySimpa false
set_option maxHeartbeats 16000000
set_option maxRecDepth 100000
open Go.Proofs.Tryz
namespace Go.Proofs.YthphepeniaemoaaGreat
open Go.RowKit
def qK (c:UInt8) (e:Bool):Bool:=mD c && !(e && isDash c)
theorem wI (c:UInt8) (b:Bool) (w:World):Calls prog 266 #[.int .u8 c.toNat,.bool b] w fun e w'=>e=.returned (.bool (qK c b))/\w=w':=by
 by_cases h45:c.toNat=45
 ·have h1:((c.toNat:Int) == 45)=true:=beq_iff_eq.2 (by omega)
  have HC:=aq h45
  cases b with
  | true =>
    go_enter func266,ntmps266;go_wp2;go_ret;exact ⟨aH (by unfold qK isDash;simp [HC.out]),rfl⟩
  | false =>
    go_enter func266,ntmps266;go_wp2;go_ret;exact ⟨aH (by unfold qK mD;simp [HC.out]),rfl⟩
 ·have h1:((c.toNat:Int) == 45)=false:=beq_eq_false_iff_ne.2 (by omega)
  have HC:=aq h45;have HD:Hid (isDash c=false):=by unfold Hid isDash;simp [h45]
  clear h45;go_enter func266,ntmps266;go_wp2;all_goals
   go_ret;exact ⟨aH (by have h9:=HC.out;unfold qK;rw [HD.out];unfold mD;rw [Bool.eq_iff_iff];simp;(first | omega | (simp only [beq_iff_eq,beq_eq_false_iff_ne,ne_eq,bne_iff_ne,bne_eq_false_iff_eq,decide_eq_true_eq,decide_eq_false_iff_not,Bool.not_eq_eq_eq_not,Bool.not_true,Bool.not_false] at *;omega))),rfl⟩
theorem Ec (c:UInt8) (w:World):Calls prog 291 #[.int .u8 c.toNat] w fun e w'=>e=.returned (.bool (mD c))/\w=w':=by
 go_enter func291,ntmps291;go_wp2;all_goals
  go_ret;exact ⟨aH (by unfold mD;rw [Bool.eq_iff_iff];simp;(first | omega | (simp only [beq_iff_eq,beq_eq_false_iff_ne,ne_eq,bne_iff_ne,bne_eq_false_iff_eq,decide_eq_true_eq,decide_eq_false_iff_not,Bool.not_eq_eq_eq_not,Bool.not_true,Bool.not_false] at *;omega))),rfl⟩
/-- what is left of a label's test -/
def jD (l:Bytes) (k:Nat):Bool:=(l.drop k).all mD && (decide (0<k) || !(l.head?.any isDash)) && (decide (k=l.length) || !(l.getLast?.any isDash))
theorem BF (l:Bytes) (k:Nat) (h:k<l.length):jD l k=(qK l[k] (decide (k=0) || decide (k=l.length - 1)) && jD l (k+1)):=by
 unfold jD qK;rw [List.drop_eq_getElem_cons h,List.all_cons];have hh:l.head?=some l[0]:=by rw [List.head?_eq_getElem?];simp
 have hg:l.getLast?=some l[l.length - 1]:=by rw [List.getLast?_eq_getElem?];simp
 rw [hh,hg];simp only [Option.any_some];rw [Bool.eq_iff_iff];by_cases h0:k=0
 ·subst h0
  by_cases h1:l.length - 1=0
  ·have e1:l.length=1:=by omega
   simp only [e1];simp [e1];intros;grind
  ·have e1:¬ (0=l.length - 1):=by omega
   have e2:¬ (0=l.length):=by omega
   have e3:¬ (0+1=l.length):=by omega
   simp [e1,e2,e3];grind
 ·by_cases h1:k=l.length - 1
  ·subst h1
   have e2:¬ (l.length - 1=l.length):=by omega
   have e3:l.length - 1+1=l.length:=by omega
   simp [h0,e2,e3];grind
  ·have e2:¬ (k=l.length):=by omega
   have e3:¬ (k+1=l.length):=by omega
   simp [h0,h1,e2,e3];grind
theorem Qi (l:Bytes) (h1:1<=l.length) (h2:l.length<=63):label l=jD l 0:=by
 unfold label jD;have e:¬ (0=l.length):=by omega
 simp [h1,h2,e]
theorem DI (l:Bytes) (h:0<l.length):jD l l.length=true:=by
 unfold jD;simp [h]
theorem QQ (s:ByteArray) (k:Nat) (h:k<s.size):(bl s)[k]'(by rw [aB];exact h)=s[k]:=rfl
theorem z48 {p : Prop} (h : p := by
 go_wp2
 go_ret
 exact ⟨aH HE.out.symm, rfl⟩) : p := h
theorem z42 {p : Prop} (h : p := by
 rw [HK.out] at HS
 cases hq : qK s[k] true with
 | true =>
   rw [hq] at HS
   go_wp2_with (go_at_call 266; refine (wI _ true _).mono ?_; rintro e w1 ⟨rfl, rfl⟩)
   go_round
   case rel => exact ⟨k + 1, by omega, by go_num, by rw [HS.out]; simp⟩
   case measure => exact z67
 | false =>
   rw [hq] at HS
   go_wp2_with (go_at_call 266; refine (wI _ true _).mono ?_; rintro e w1 ⟨rfl, rfl⟩)
   go_ret
   exact ⟨aH (by rw [HS.out]; simp), rfl⟩) : p := h
theorem Ol (s:ByteArray) (w:World) (hs:s.size<=1073741824) :
 Calls prog 239 #[.string s] w fun e w'=>e=.returned (.bool (label (bl s)))/\w=w':=by
 by_cases h0:0<s.size
 ·have he:=mg h0
  have he':=lK h0;by_cases h63:s.size<=63
  ·have HL:=aq (Qi (bl s) (by rw [aB];omega) (by rw [aB];omega))
   go_enter func239,ntmps239;go_wp2;go_loop [3,13] (fun _ i=>∃ k:Nat,k<=s.size/\i=.int .i64 k/\label (bl s)=jD (bl s) k) (fun _ i=>s.size - (intOf i).toNat)
   case atStart=>exact ⟨0,Nat.zero_le _,rfl,HL.out⟩
   case round =>
        obtain ⟨k,hk,rfl,hpre⟩:=hrel;by_cases hlt:k<s.size
        ·have hst:=BF (bl s) k hlt
         rw [QQ s k hlt,aB] at hst;have HS:Hid (label (bl s)=(qK s[k] (decide (k=0) || decide (k=s.size - 1)) && jD (bl s) (k+1))):=by rw [Hid,hpre,hst]
         clear hst hpre;by_cases hk0:k=0
         ·have e0:((k:Int) == 0)=true:=beq_iff_eq.2 (by omega)
          have HK:Hid ((decide (k=0) || decide (k=s.size - 1))=true):=by simp [Hid,hk0]
          have hk0':k<1:=by omega
          clear hk0
          exact z42
         ·have e0:((k:Int) == 0)=false:=beq_eq_false_iff_ne.2 (by omega)
          by_cases hk1:k=s.size - 1
          ·have e1:((k:Int) == (s.size:Int) - 1)=true:=beq_iff_eq.2 (by omega)
           have HK:Hid ((decide (k=0) || decide (k=s.size - 1))=true):=by simp [Hid,hk1]
           clear hk0 hk1
           exact z42
          ·have e1:((k:Int) == (s.size:Int) - 1)=false:=beq_eq_false_iff_ne.2 (by omega)
           have HK:Hid ((decide (k=0) || decide (k=s.size - 1))=false):=by simp [Hid,hk0,hk1]
           clear hk0 hk1;rw [HK.out] at HS
           cases hq:qK s[k] false with
           | true =>
             rw [hq] at HS;go_wp2_with (go_at_call 266;refine (wI _ false _).mono ?_;rintro e w1 ⟨rfl,rfl⟩)
             go_round
             case rel=>exact ⟨k+1,by omega,by go_num,by rw [HS.out];simp⟩
             case measure => exact z67
           | false =>
             rw [hq] at HS;go_wp2_with (go_at_call 266;refine (wI _ false _).mono ?_;rintro e w1 ⟨rfl,rfl⟩)
             go_ret;exact ⟨aH (by rw [HS.out];simp),rfl⟩
        ·have HE:Hid (label (bl s)=true):=by
          have:k=(bl s).length:=by rw [aB];omega
          rw [Hid,hpre,this];exact DI _ (by rw [aB];exact h0)
         clear hpre
         exact z48
  ·have HE:Hid (label (bl s)=false):=by
        unfold Hid label;rw [aB];simp [show ¬ s.size<=63 from h63]
   go_enter func239,ntmps239
   exact z48
 ·obtain rfl:s=ByteArray.empty:=lI (vV h0)
  have HE:Hid (label (bl ByteArray.empty)=false):=rfl;go_enter func239,ntmps239
  exact z48
theorem uu (s:ByteArray) (h:0<s.size):(bl s).head?=some s[0]:=by rw [List.head?_eq_getElem?,List.getElem?_eq_getElem (by rw [aB];exact h)];rfl
theorem FW (s:ByteArray) (h:0<s.size):(bl s).getLast?=some (s[s.size - 1]'(by omega)):=by
 rw [List.getLast?_eq_getElem?,List.getElem?_eq_getElem (by rw [aB];omega)];rfl
theorem z118 {p : Prop} (h : p := by
 go_wp2
 go_ret
 exact ⟨aH (by rw [HP.out, HD.out]; rfl), rfl⟩) : p := h
theorem z145 {p : Prop} (h : p := by
 go_enter func271, ntmps271
 exact z48) : p := h
theorem JV (s:ByteArray) (w:World) (hs:s.size<=1073741824) :
 Calls prog 271 #[.string s] w fun e w'=>e=.returned (.bool (label (bl s)))/\w=w':=by
 by_cases h0:0<s.size
 ·by_cases h63:s.size<=63
  ·have hh:=uu s h0
   have hg:=FW s h0;by_cases ha:s[0].toNat=45
   ·have HE:Hid (label (bl s)=false):=by unfold Hid label;rw [hh];simp [isDash,ha]
    have e1:((s[0].toNat:Int) == 45)=true:=beq_iff_eq.2 (by omega);clear hh hg ha
    exact z145
   ·have e1:((s[0].toNat:Int) == 45)=false:=beq_eq_false_iff_ne.2 (by omega)
    by_cases hb:s[s.size - 1].toNat=45
    ·have HE:Hid (label (bl s)=false):=by unfold Hid label;rw [hg];simp [isDash,hb]
     have e2:((s[s.size - 1].toNat:Int) == 45)=true:=beq_iff_eq.2 (by omega);clear hh hg ha hb
     exact z145
    ·have e2:((s[s.size - 1].toNat:Int) == 45)=false:=beq_eq_false_iff_ne.2 (by omega)
     have HL:Hid (label (bl s)=(bl s).all mD):=by
      unfold Hid label;rw [hh,hg,aB];simp [isDash,ha,hb,h63,show 1<=s.size from h0]
     clear hh hg ha hb;go_enter func271,ntmps271;go_wp2;go_loop [3] (fun i=>∃ k:Nat,k<=s.size/\i=.int .i64 k/\label (bl s)=((bl s).drop k).all mD) (fun i=>s.size - (intOf i).toNat)
     case atStart=>exact ⟨0,Nat.zero_le _,rfl,HL.out⟩
     case round =>
      obtain ⟨k,hk,rfl,hpre⟩:=hrel;have HP:=aq hpre;clear hpre;by_cases hlt:k<s.size
      ·have HD:=aq (drop_cons s k hlt)
       cases hq:mD s[k] with
       | true =>
         go_wp2_with (go_at_call 291;refine (Ec _ _).mono ?_;rintro e w1 ⟨rfl,rfl⟩)
         go_round
         case rel=>exact ⟨k+1,by omega,by go_num,by rw [HP.out,HD.out];simp [hq]⟩
         case measure => exact z67
       | false =>
         go_wp2_with (go_at_call 291;refine (Ec _ _).mono ?_;rintro e w1 ⟨rfl,rfl⟩)
         go_ret;exact ⟨aH (by rw [HP.out,HD.out];simp [hq]),rfl⟩
      ·have HD:=aq (iH s k hlt)
       exact z118
  ·have HE:Hid (label (bl s)=false):=by
        unfold Hid label;rw [aB];simp [show ¬ s.size<=63 from h63]
   exact z145
 ·obtain rfl:s=ByteArray.empty:=lI (vV h0)
  have HE:Hid (label (bl ByteArray.empty)=false):=rfl
  exact z145
/-- the middle of an address in brackets -/
theorem zC (s:ByteArray) (h4:4<=s.size):((bl s).drop 1).take ((bl s).length - 2)=bl (s.extract 1 (s.size - 1)):=by
 rw [gu,aB,List.drop_take];congr 1
theorem z59 {p : Prop} (h : p := by
 go_wp2
 go_ret
 exact ⟨aH HE.out.symm, bh _ _⟩) : p := h
theorem z146 {p : Prop} (h : p := by
 go_enter func241, ntmps241
 exact z59) : p := h
theorem Jj (s:ByteArray) (w:World) (hs:s.size<=1073741824) :
 Calls prog 241 #[.string s] w fun e w'=>e=.returned (.bool (bracket (bl s)))/\Below w.heap.size w w':=by
 by_cases h4:4<=s.size
 ·by_cases h47:s.size<=47
  ·have h0:0<s.size:=by omega
   have hh:=uu s h0;have hg:=FW s h0;by_cases ha:s[0].toNat=91
   ·have e1:((s[0].toNat:Int) != 91)=false:=by rw [bne_eq_false_iff_eq];omega
    by_cases hb:s[s.size - 1].toNat=93
    ·have e2:((s[s.size - 1].toNat:Int) != 93)=false:=by rw [bne_eq_false_iff_eq];omega
     have HM:Hid (bracket (bl s)=(bl (s.extract 1 (s.size - 1))).all jq):=by
      unfold Hid bracket;rw [zC s h4,hh,hg,aB];simp [ha,hb,h4,h47]
     obtain ⟨cap,w1,hconv,hb1,hz1,hcap,hby,hfr⟩:=CU (P:=prog) 9 54 5 underlying9 underlying54 underlying5 w (s.extract 1 (s.size - 1));have hts:Hid ((s.extract 1 (s.size - 1)).size=s.size - 1 - 1):=by unfold Hid;simp <;> omega
     have hsx:(1:Int)<=(s.size:Int) - 1:=by omega
     have hsy:(s.size:Int) - 1<=(s.size:Int):=by omega
     have hsz:(0:Int)<=(s.size:Int) - 1:=by omega
     have hsw:((s.size:Int) - 1).toNat=s.size - 1:=by omega
     clear hh hg ha hb hfr hz1;go_enter func241,ntmps241;go_wp2;clear hconv;generalize s.extract 1 (s.size - 1)=t at *;go_loop [4,33] (fun _ i=>∃ k:Nat,k<=s.size - 1 - 1/\i=.int .i64 k/\bracket (bl s)=((bl t).drop k).all jq) (fun _ i=>s.size - (intOf i).toNat)
     case atStart=>exact ⟨0,Nat.zero_le _,rfl,HM.out⟩
     case round =>
      obtain ⟨k,hk,rfl,hpre⟩:=hrel;have HP:=aq hpre;clear hpre;by_cases hlt':k<s.size - 1 - 1
      ·have hlt:k<t.size:=by rw [hts.out];exact hlt'
       have HD:=aq (drop_cons t k hlt);have hck:=hby k hlt;rw [QQ t k hlt,aw] at hck;have HY:Hid (jq t[k]=true->bracket (bl s)=((bl t).drop (k+1)).all jq):=fun h=>by rw [HP.out,HD.out];simp [h]
       have HN:Hid (jq t[k]=false->bracket (bl s)=false):=fun h=>by rw [HP.out,HD.out];simp [h]
       clear HP HD;generalize t[k]=c at *;clear hby;go_wp2;all_goals first
            | (go_ret;exact ⟨aH (HN.out (by unfold jq;rw [Bool.eq_iff_iff];simp;(first | omega | (simp only [beq_iff_eq,beq_eq_false_iff_ne,ne_eq,bne_iff_ne,bne_eq_false_iff_eq,decide_eq_true_eq,decide_eq_false_iff_not,Bool.not_eq_eq_eq_not,Bool.not_true,Bool.not_false] at *;omega)))).symm,hb1⟩)
            | (go_round
               case rel=>exact ⟨k+1,by omega,by go_num,HY.out (by unfold jq;simp;(first | omega | (simp only [beq_iff_eq,beq_eq_false_iff_ne,ne_eq,bne_iff_ne,bne_eq_false_iff_eq,decide_eq_true_eq,decide_eq_false_iff_not,Bool.not_eq_eq_eq_not,Bool.not_true,Bool.not_false] at *;omega)))⟩
               case measure=>simp [intOf] <;> omega)
      ·have HD:=aq (iH t k (by rw [hts.out];exact hlt'))
       go_wp2;go_ret;exact ⟨aH (by rw [HP.out,HD.out];rfl),hb1⟩
    ·have e2:((s[s.size - 1].toNat:Int) != 93)=true:=by rw [bne_iff_ne];omega
     have HE:Hid (bracket (bl s)=false):=by unfold Hid bracket;rw [hg];simp [hb]
     clear hh hg hb ha
     exact z146
   ·have e1:((s[0].toNat:Int) != 91)=true:=by rw [bne_iff_ne];omega
    have HE:Hid (bracket (bl s)=false):=by unfold Hid bracket;rw [hh];simp [ha]
    clear hh hg ha
    exact z146
  ·have HE:Hid (bracket (bl s)=false):=by unfold Hid bracket;rw [aB];simp [show ¬ s.size<=47 from h47]
   exact z146
 ·have HE:Hid (bracket (bl s)=false):=by unfold Hid bracket;rw [aB];simp [show ¬ 4<=s.size from h4]
  exact z146
theorem z147 {p : Prop} (h : p := by
 go_enter func272, ntmps272
 exact z48) : p := h
theorem FI (s:ByteArray) (w:World) (hs:s.size<=1073741824) :
 Calls prog 272 #[.string s] w fun e w'=>e=.returned (.bool (bracket (bl s)))/\w=w':=by
 by_cases h4:4<=s.size
 ·by_cases h47:s.size<=47
  ·have h0:0<s.size:=by omega
   have hh:=uu s h0;have hg:=FW s h0;by_cases ha:s[0].toNat=91
   ·have e1:((s[0].toNat:Int) != 91)=false:=by rw [bne_eq_false_iff_eq];omega
    by_cases hb:s[s.size - 1].toNat=93
    ·have e2:((s[s.size - 1].toNat:Int) != 93)=false:=by rw [bne_eq_false_iff_eq];omega
     have HM:Hid (bracket (bl s)=(((bl s).take (s.size - 1)).drop 1).all jq):=by
      unfold Hid bracket;rw [zC s h4,hh,hg,aB,gu];simp [ha,hb,h4,h47]
     clear hh hg ha hb;go_enter func272,ntmps272;go_wp2;go_loop [3,4] (fun i _=>∃ k:Nat,1<=k/\k<=s.size - 1/\i=.int .i64 k/\bracket (bl s)=(((bl s).take (s.size - 1)).drop k).all jq) (fun i _=>s.size - (intOf i).toNat)
     case atStart=>exact ⟨1,ar _,by omega,rfl,HM.out⟩
     case round =>
      obtain ⟨k,hk1,hk,rfl,hpre⟩:=hrel;have HP:=aq hpre;clear hpre;by_cases hlt:k<s.size - 1
      ·have hlt2:k<s.size:=by omega
       have HD:Hid (((bl s).take (s.size - 1)).drop k=s[k] :: ((bl s).take (s.size - 1)).drop (k+1)):=by
            rw [Hid,List.drop_eq_getElem_cons (by simp [aB];omega),List.getElem_take];rfl
       have HY:Hid (jq s[k]=true->bracket (bl s)=(((bl s).take (s.size - 1)).drop (k+1)).all jq):=fun h=>by rw [HP.out,HD.out];simp [h]
       have HN:Hid (jq s[k]=false->bracket (bl s)=false):=fun h=>by rw [HP.out,HD.out];simp [h]
       clear HP HD;go_wp2;all_goals first
            | (go_ret;exact ⟨aH (HN.out (by unfold jq;rw [Bool.eq_iff_iff];simp;(first | omega | (simp only [beq_iff_eq,beq_eq_false_iff_ne,ne_eq,bne_iff_ne,bne_eq_false_iff_eq,decide_eq_true_eq,decide_eq_false_iff_not,Bool.not_eq_eq_eq_not,Bool.not_true,Bool.not_false] at *;omega)))).symm,rfl⟩)
            | (go_round
               case rel=>exact ⟨k+1,by omega,by omega,by go_num,HY.out (by unfold jq;simp;(first | omega | (simp only [beq_iff_eq,beq_eq_false_iff_ne,ne_eq,bne_iff_ne,bne_eq_false_iff_eq,decide_eq_true_eq,decide_eq_false_iff_not,Bool.not_eq_eq_eq_not,Bool.not_true,Bool.not_false] at *;omega)))⟩
               case measure=>simp [intOf] <;> omega)
      ·have HD:Hid (((bl s).take (s.size - 1)).drop k=[]):=by rw [Hid,List.drop_eq_nil_iff];simp [aB];omega
       have hge:(s.size:Int) - 1<=(k:Int):=by omega
       exact z118
    ·have e2:((s[s.size - 1].toNat:Int) != 93)=true:=by rw [bne_iff_ne];omega
     have HE:Hid (bracket (bl s)=false):=by unfold Hid bracket;rw [hg];simp [hb]
     clear hh hg hb ha
     exact z147
   ·have e1:((s[0].toNat:Int) != 91)=true:=by rw [bne_iff_ne];omega
    have HE:Hid (bracket (bl s)=false):=by unfold Hid bracket;rw [hh];simp [ha]
    clear hh hg ha
    exact z147
  ·have HE:Hid (bracket (bl s)=false):=by unfold Hid bracket;rw [aB];simp [show ¬ s.size<=47 from h47]
   exact z147
 ·have HE:Hid (bracket (bl s)=false):=by unfold Hid bracket;rw [aB];simp [show ¬ 4<=s.size from h4]
  exact z147
/-- a slice of strings that the callee made, read -/
theorem nG {w:World} {base:Nat} {E:TypeId} {v:Value} {L:List Bytes} (h:w.ownsRow base E 1 v L.length (mQ L)) (hne:L≠[]) :
 ∃ g cap,v=.slice (some ⟨g,0,none⟩) L.length cap/\∀ j (hj:j<L.length),w.cell? ⟨g,j,none⟩=some (.string (mkS L[j])):=by
 have hc:=fun g (hg:v.ownBlock=some g)=>h.cells hg;rcases h.2 with ⟨rfl,hn⟩ | ⟨g,cap,cur,rfl,rest⟩
 ·exact absurd (List.length_eq_zero_iff.1 hn) hne
 ·refine ⟨g,cap,rfl,fun j hj=>?_⟩
  have:=hc g rfl j (.string (mkS L[j])) (by simp [mQ,hj]);unfold Addr.add at this;split at this
  ·rename_i h0;subst h0;exact this
  ·simpa using this
theorem ul (c:UInt8) (s:ByteArray) (hs:s.size<=1073741824):(splitB c (bl s)).length<=1073741825:=by
 have:=uI c (bl s);rw [aB] at this;omega
theorem kG (c:UInt8):∀ (l:Bytes) (p:Bytes),p∈splitB c l->p.length<=l.length
 | [],p,h=>by simp [splitB] at h;subst h;simp
 | x :: r,p,h=>by
   unfold splitB at h;split at h
   ·rcases List.mem_cons.1 h with rfl | h
    ·simp
    ·have:=kG c r p h;simp;omega
   ·cases hs:splitB c r with
    | nil=>exact absurd hs (jB c r)
    | cons a b =>
      rw [hs] at h;rcases List.mem_cons.1 h with rfl | h
      ·have:=kG c r a (by rw [hs];simp);simp;omega
      ·have:=kG c r p (by rw [hs];simp [h]);simp;omega
/-- what decides on a number of an address -/
theorem P8 (t:ByteArray):jQ (bl t)=(decide (0<t.size) && ((bl t).all isDigit && (decide (jW (bl t)<=255) && (decide (t.size<=1) || !((bl t).head?.any fun c=>decide (c.toNat=48)))))):=by
 unfold jQ;rw [aB];simp [Nat.succ_le_iff,Bool.and_assoc]
theorem z54 {p : Prop} (h : p := by
 generalize number (bl t) = nv at mO
 have hnum := aq mO
 have hdig := aq xq
 clear mO xq hT
 go_wp2_with (first | (go_at_call 267; refine (hnum.out _).mono ?_; rintro e w2 ⟨rfl, rfl⟩) | (go_at_call 268; refine (hdig.out _).mono ?_; rintro e w2 ⟨rfl, rfl⟩))
 go_round
 case rel => exact ⟨k + 1, by omega, by go_num, HE.out⟩
 case measure => simp [intOf] <;> omega) : p := h
theorem z33 {p : Prop} (h : p := by
 generalize number (bl t) = nv at mO
 have hnum := aq mO
 have hdig := aq xq
 clear mO xq hT
 go_wp2_with (first | (go_at_call 267; refine (hnum.out _).mono ?_; rintro e w2 ⟨rfl, rfl⟩) | (go_at_call 268; refine (hdig.out _).mono ?_; rintro e w2 ⟨rfl, rfl⟩))
 go_ret
 exact ⟨aH HE.out.symm, hbel⟩) : p := h
theorem z94 {p : Prop} (h : p := by have := kG 46 (bl s) p (by rw [<- hL]; exact hp); rw [aB] at this; omega) : p := h
theorem z148 {p : Prop} (h : p := by
 go_ret
 exact ⟨aH HE.out.symm, hbel⟩) : p := h
theorem y49 {p q : Prop} (k : q) (h : PLift q -> p := by
 intro kk
 have hD : L.drop k = L[k] :: L.drop (k + 1) := List.drop_eq_getElem_cons hlt
 have hml := hmem.out L[k] (List.getElem_mem hlt)
 revert hD hml
 exact kk.down) : p := h ⟨k⟩
theorem IP (s:ByteArray) (w:World) (hs:s.size<=1073741824) :
 Calls prog 240 #[.string s] w fun e w'=>e=.returned (.bool (four (bl s)))/\Below w.heap.size w w':=by
 obtain ⟨L,hL⟩:∃ L,L=splitB 46 (bl s):=⟨_,rfl⟩;have hsp:=fun (W:World)=>E8 s 46 W hs;have hne:L≠[]:=by rw [hL];exact jB _ _
 have hmem:Hid (∀ p∈L,p.length<=1073741824):=fun p hp=>by
  exact z94
 have IB:Hid (four (bl s)=(decide (L.length=4) && L.all jQ)):=by unfold Hid four;rw [hL]
 rw [<- hL] at hsp;have hlen:L.length<=1073741825:=by rw [hL];exact ul 46 s hs
 have HS:=aq hsp;clear hsp hL;by_cases h4:L.length=4
 ·have e4:((L.length:Int) != 4)=false:=by rw [bne_eq_false_iff_eq];omega
  have H4:=aq h4;have hlt4:L.length<=4:=by omega
  clear h4;go_enter func240,ntmps240;go_wp2_with (go_at_call 238;refine (HS.out _).mono ?_;rintro e w1 ⟨v,rfl,hown,hbel⟩;obtain ⟨g,cap,rfl,hcells⟩:=nG hown hne;have HC:=aq hcells;clear hcells hown)
  go_loop [5,6,7,15,19] (fun _ _ _ i _=>∃ k:Nat,k<=L.length/\i=.int .i64 k/\four (bl s)=(L.drop k).all jQ) (fun _ _ _ i _=>L.length - (intOf i).toNat)
  case atStart=>exact ⟨0,Nat.zero_le _,rfl,by rw [IB.out,H4.out];simp⟩
  case round =>
   obtain ⟨k,hk,rfl,hpre⟩:=hrel;have HP:=aq hpre;clear hpre;by_cases hlt:k<L.length
   ·have hcell:=HC.out k hlt
    refine y49 ?_
    intro hD hml
    have hO:=P8 (mkS L[k]);rw [mJ] at hO;have hT:Hid (four (bl s)=(jQ L[k] && (L.drop (k+1)).all jQ)):=by rw [Hid,HP.out,hD,List.all_cons]
    rw [hO] at hT;obtain ⟨t,ht⟩:∃ t,t=mkS L[k]:=⟨_,rfl⟩;rw [<- ht] at hcell hT;have hbt:L[k]=bl t:=by rw [ht,mJ]
    rw [hbt] at hT;have hts:t.size<=1073741824:=by rw [ht,kN];exact hml
    clear HP hO ht hbt hml hD;have mO:=fun (W:World)=>LQ t W hts;have xq:=fun (W:World)=>wu t W (by unfold maxLen;omega);have hdl:=qB (bl t);rw [aB] at hdl;by_cases h0:0<t.size
    ·have hse:=mg h0
     have hse':=lK h0;have hhd:=uu t h0;by_cases hall:(bl t).all isDigit=true
     ·have hnl:¬ digits (bl t)<t.size:=fun h=>(eX (bl t)).1 (by rw [aB];exact h) hall
      have Qs:¬ (0<t.size/\∀ h:0<t.size,t[0].toNat=45):=fun ⟨_,h⟩=>by
            have h9:=vG hall h0;have:=h h0;simp [isDigit,this] at h9
      have hnv:=qQ t Qs;rw [if_pos ⟨h0,hall⟩] at hnv;rw [hnv] at mO;simp only at mO;have hnb:=wY (bl t) hall;by_cases h255:jW (bl t)<=255
      ·by_cases h1:t.size<=1
       ·have HE:Hid (four (bl s)=(L.drop (k+1)).all jQ):=by rw [Hid,hT];simp [h0,hall,h255,h1]
        exact z54
       ·by_cases h48:t[0].toNat=48
        ·have HE:Hid (four (bl s)=false):=by rw [Hid,hT,hhd];simp [h1,h48]
         have e48:((t[0].toNat:Int) == 48)=true:=beq_iff_eq.2 (by omega)
         exact z33
        ·have HE:Hid (four (bl s)=(L.drop (k+1)).all jQ):=by rw [Hid,hT,hhd];simp [h0,hall,h255,h48]
         have e48:((t[0].toNat:Int) == 48)=false:=beq_eq_false_iff_ne.2 (by omega)
         exact z54
      ·have HE:Hid (four (bl s)=false):=by rw [Hid,hT];simp [h255]
       exact z33
     ·have hnl:digits (bl t)<t.size:=by have:=(eX (bl t)).2 hall;rwa [aB] at this
      have HE:Hid (four (bl s)=false):=by rw [Hid,hT];simp [hall]
      exact z33
    ·have hse:=lJ h0
     have hse':=nV h0;have HE:Hid (four (bl s)=false):=by rw [Hid,hT];simp [h0]
     exact z33
   ·have HE:Hid (four (bl s)=true):=by rw [Hid,HP.out,List.drop_eq_nil_of_le (by omega)];rfl
    go_wp2
    exact z148
 ·have e4:((L.length:Int) != 4)=true:=by rw [bne_iff_ne];omega
  have HE:Hid (four (bl s)=false):=by rw [Hid,IB.out];simp [h4]
  clear h4;go_enter func240,ntmps240;go_wp2_with (go_at_call 238;refine (HS.out _).mono ?_;rintro e w1 ⟨v,rfl,hown,hbel⟩;obtain ⟨g,cap,rfl,hcells⟩:=nG hown hne;have HC:=aq hcells;clear hcells hown)
  exact z148
/-- what the reference asks of a number of an address -/
def mr (p:Bytes):Bool:=decide (1<=p.length) && decide (p.length<=3) && p.all isDigit && decide (jW p<=255) && decide (kw (jW p).toNat=p)
theorem IQ:∀ (l:Bytes) (n:Int),0<=n->n<=1099511627776->l.all isDigit=true->n<=l.foldl dY n
 | [],_,_,_,_=>Int.le_refl _
 | c :: r,n,h0,h1,hl=>by
   simp only [List.all_cons,Bool.and_eq_true] at hl;have h2:=qR h0 hl.1;have h3:=IQ r (dY n c) h2.1 h2.2 hl.2;have hd:=hl.1;unfold isDigit at hd;simp at hd;have h4:n<=dY n c:=by unfold dY;omega
   exact Int.le_trans h4 h3
theorem oK {c:UInt8} (h:isDigit c=true):48<=c.toNat/\c.toNat<=57:=by simpa [isDigit] using h
theorem oq (n:Nat) (c:UInt8) (h:n=c.toNat):UInt8.ofNat n=c:=by
 apply UInt8.toNat_inj.1;rw [h];simp
theorem NZ (p:Bytes):jQ p=mr p:=by
 match p with
 | []=>rfl
 | [a] =>
   unfold jQ mr;by_cases ha:isDigit a=true
   ·have h:=oK ha
    have hn:jW [a]=((a.toNat - 48:Nat):Int):=by simp [jW,dY];omega
    have ht:kw (a.toNat - 48)=[a]:=by rw [iJ _ (by omega),oq _ a (by omega)]
    rw [hn];simp [ha,ht]; 
   ·simp [ha]
 | [a,b] =>
   unfold jQ mr;by_cases ha:isDigit a=true
   ·by_cases hb:isDigit b=true
    ·have h1:=oK ha
     have h2:=oK hb;have hn:jW [a,b]=(((a.toNat - 48) * 10+(b.toNat - 48):Nat):Int):=by simp [jW,dY];omega
     rw [hn];by_cases h0:a.toNat=48
     ·have ht:kw ((a.toNat - 48) * 10+(b.toNat - 48))=[b]:=by rw [h0];simp;rw [iJ _ (by omega),oq _ b (by omega)]
      simp [ha,hb,h0];rw [h0] at ht;simp at ht;rw [ht];simp
     ·have ht:kw ((a.toNat - 48) * 10+(b.toNat - 48))=[a,b]:=by
       rw [nD _ (by omega),iJ _ (by omega),oq _ a (by omega),oq _ b (by omega)];rfl
      rw [Int.toNat_natCast,ht];simp [ha,hb,h0]
    ·simp [ha,hb]
   ·simp [ha]
 | [a,b,c] =>
   unfold jQ mr;by_cases ha:isDigit a=true
   ·by_cases hb:isDigit b=true
    ·by_cases hc:isDigit c=true
     ·have h1:=oK ha
      have h2:=oK hb;have h3:=oK hc;have hn:jW [a,b,c]=(((a.toNat - 48) * 100+(b.toNat - 48) * 10+(c.toNat - 48):Nat):Int):=by simp [jW,dY];omega
      rw [hn];by_cases h0:a.toNat=48
      ·have ht:kw ((a.toNat - 48) * 100+(b.toNat - 48) * 10+(c.toNat - 48))≠[a,b,c]:=by
             intro h;have hl:=congrArg List.length h;by_cases hs:(a.toNat - 48) * 100+(b.toNat - 48) * 10+(c.toNat - 48)<10
             ·rw [iJ _ hs] at hl;simp at hl
             ·rw [nD _ hs,iJ _ (by omega)] at hl;simp at hl
       simp [ha,hb,hc,h0] at ht ⊢;intro _;exact ht
      ·have ht:kw ((a.toNat - 48) * 100+(b.toNat - 48) * 10+(c.toNat - 48))=[a,b,c]:=by
             rw [nD _ (by omega),nD _ (by omega),iJ _ (by omega),oq _ a (by omega),oq _ b (by omega),oq _ c (by omega)];rfl
       rw [Int.toNat_natCast,ht];simp [ha,hb,hc,h0]
     ·simp [ha,hb,hc]
    ·simp [ha,hb]
   ·simp [ha]
 | a :: b :: c :: d :: r =>
   have e2:mr (a :: b :: c :: d :: r)=false:=by unfold mr;simp
   rw [e2];by_cases hall:(a :: b :: c :: d :: r).all isDigit=true
   ·by_cases h0:a.toNat=48
    ·unfold jQ;simp [h0]
    ·have hx:=hall
     simp only [List.all_cons,Bool.and_eq_true] at hx;obtain ⟨ha,hb,hc,hd,hr⟩:=hx;have h1:=oK ha;have h2:=oK hb;have h3:=oK hc;have h4:=oK hd;have hs:[a,b,c,d].foldl dY 0=(((a.toNat - 48) * 1000+(b.toNat - 48) * 100+(c.toNat - 48) * 10+(d.toNat - 48):Nat):Int):=by simp [dY];omega
     have hg:=IQ r ([a,b,c,d].foldl dY 0) (by rw [hs];omega) (by rw [hs];omega) hr;have hn:¬ jW (a :: b :: c :: d :: r)<=255:=by
      have:jW (a :: b :: c :: d :: r)=r.foldl dY ([a,b,c,d].foldl dY 0):=rfl;rw [this,hs];rw [hs] at hg;omega
     unfold jQ;simp [hn]
   ·unfold jQ;simp only [hall];simp
theorem quiet_of_same' {P:Program} {f:FuncId} {args:Array Value} {w:World} {n:Nat} {v:Value}
 (h:Calls P f args (w.drewN n) fun e w'=>e=.returned v/\w.drewN n=w'):Calls P f args (w.drewN n) fun e w''=>e=.returned v/\∃ m,w''=w.drewN m :=
 h.mono fun _ _ ⟨he,hm⟩=>⟨he,n,hm.symm⟩
theorem z45 {p : Prop} (h : p := by
 generalize number (bl t) = nv at mO
 have hnum := aq mO
 have hdig := aq xq
 clear mO xq hT
 go_wp2
 go_quiet ((first | (with_reducible exact quiet_of_same' (hdig.out _))))
 go_wp2
 go_ret
 exact ⟨aH HE.out.symm, hbt.trans (below_drewN' _)⟩) : p := h
theorem uq (s:ByteArray) (w:World) (hs:s.size<=1073741824) :
 Calls prog 269 #[.string s] w fun e w'=>e=.returned (.bool (four (bl s)))/\Below w.heap.size w w':=by
 obtain ⟨L,hL⟩:∃ L,L=splitB 46 (bl s):=⟨_,rfl⟩;have hsp:=fun (W:World)=>AB s 46 W hs;have hne:L≠[]:=by rw [hL];exact jB _ _
 have hmem:Hid (∀ p∈L,p.length<=1073741824):=fun p hp=>by
  exact z94
 have IB:Hid (four (bl s)=(decide (L.length=4) && L.all jQ)):=by unfold Hid four;rw [hL]
 rw [<- hL] at hsp;have hlen:L.length<=1073741825:=by rw [hL];exact ul 46 s hs
 have HS:=aq hsp;clear hsp hL;by_cases h4:L.length=4
 ·have e4:((L.length:Int) != 4)=false:=by rw [bne_eq_false_iff_eq];omega
  have H4:=aq h4;have hlt4:L.length<=4:=by omega
  have hge4:4<=L.length:=by omega
  clear h4;go_enter func269,ntmps269;go_wp2_with (go_at_call 270;refine (HS.out _).mono ?_;rintro e w1 ⟨v,rfl,hown,hbel⟩;obtain ⟨g,cap,rfl,hcells⟩:=nG hown hne;have HC:=aq hcells;clear hcells hown)
  go_loopw [4,5,6] (fun i _ _ wr=>∃ k:Nat,k<=L.length/\i=.int .i64 k/\four (bl s)=(L.drop k).all jQ/\Below w1.heap.size w1 wr) (fun i _ _ _=>L.length - (intOf i).toNat)
  case atStart=>exact ⟨0,Nat.zero_le _,rfl,by rw [IB.out,H4.out];simp,bh _ _⟩
  case round =>
   obtain ⟨k,hk,rfl,hpre,hbr⟩:=hrel;have HP:=aq hpre;clear hpre;have hbt:=below2 hbel hbr;by_cases hlt:k<L.length
   ·have hcell:=kept hbr (HC.out k hlt)
    have hk4:k<4:=by omega
    refine y49 ?_
    intro hD hml
    have hT:Hid (four (bl s)=(mr L[k] && (L.drop (k+1)).all jQ)):=by rw [Hid,HP.out,hD,List.all_cons,NZ]
    obtain ⟨t,ht⟩:∃ t,t=mkS L[k]:=⟨_,rfl⟩;rw [<- ht] at hcell;have BZ:L[k]=bl t:=by rw [ht,mJ]
    rw [BZ] at hT;have hts:t.size<=1073741824:=by rw [ht,kN];exact hml
    clear HP ht BZ hml hD;have mO:=fun (W:World)=>G5 t W hts;have xq:=fun (W:World)=>o8 t W (by unfold maxLen;omega);by_cases h0:0<t.size
    ·have d1:decide ((t.size:Int)<1)=false:=by simp;omega
     by_cases h3:t.size<=3
     ·have d3:decide (3<(t.size:Int))=false:=by simp;omega
      by_cases hall:(bl t).all isDigit=true
      ·have hnl:¬ digits (bl t)<t.size:=fun h=>(eX (bl t)).1 (by rw [aB];exact h) hall
       have hdl:=qB (bl t);rw [aB] at hdl;have d4:((digits (bl t):Int) != (t.size:Int))=false:=by rw [bne_eq_false_iff_eq];omega
       have Qs:¬ (0<t.size/\∀ h:0<t.size,t[0].toNat=45):=fun ⟨_,h⟩=>by
              have h9:=vG hall h0;have:=h h0;simp [isDigit,this] at h9
       have hnv:=qQ t Qs;rw [if_pos ⟨h0,hall⟩] at hnv;have hnb:=wY (bl t) hall;obtain ⟨m,hm⟩:∃ m:Nat,jW (bl t)=(m:Int):=⟨(jW (bl t)).toNat,by omega⟩;rw [hnv,hm] at mO;simp only at mO;have hm2:m<=1099511627776:=by omega
       have hO:mr (bl t)=(decide (m<=255) && decide (kw m=bl t)):=by
              unfold mr;rw [hall,hm,Int.toNat_natCast,aB];rw [show decide ((m:Int)<=255)=decide (m<=255) by rw [Bool.eq_iff_iff];simp;omega];simp [h3,show 1<=t.size from h0]
       rw [hO] at hT;have htx:=fun (W:World)=>NE m W (by omega);have hnum:=aq mO;have hdig:=aq xq;have HTX:=aq htx;clear mO xq htx hnv hm hnb hO hnl hall;by_cases h255:m<=255
       ·have d5:decide (255<(m:Int))=false:=by simp;omega
        by_cases htm:kw m=bl t
        ·have HE:Hid (four (bl s)=(L.drop (k+1)).all jQ):=by rw [Hid,hT];simp [h255,htm]
         have d6:((mkS (kw m)).toList == t.toList)=true:=by rw [qH,mJ];simp [htm]
         clear hT htm;go_wp2;go_quiet ((first | (with_reducible exact quiet_of_same' (hdig.out _))))
         go_wp2_with (go_at_call 289;refine (hnum.out _).mono ?_;rintro e w2 ⟨rfl,rfl⟩)
         refine aN (by kernel_rfl) (by kernel_rfl) (fun W hW=>?_);have hcw:∀ i:After W,i.w.cell? ⟨g,k,none⟩=some (.string t):=fun i=>i.cell (by rw [hW.out];exact hcell);quiet_step (fail)
         quiet_step (fail)
         quiet_step (fail)
         quiet_step (fail)
         quiet_step (exact Calls.after (HTX.out _))
         quiet_step (fail)
         quiet_step (fail)
         quiet_step (fail)
         quiet_step (fail)
         quiet_step (fail)
         quiet_step (fail)
         refine wpQuiet_nil ?_;rintro _ ⟨i,rfl⟩;have hib:=i.h;generalize i.w=wi at hib ⊢;rw [hW.out] at hib;clear hcw;go_wp2;go_roundw
         case rel=>exact ⟨k+1,by omega,by go_num,HE.out,hbr.trans ((below_drewN' (B:=w1.heap.size) nq).trans (hib.mono (by simp;exact hbr.size)))⟩
         case measure => exact z67
        ·have HE:Hid (four (bl s)=false):=by rw [Hid,hT];simp [htm]
         have d6:((mkS (kw m)).toList == t.toList)=false:=by rw [qH,mJ];simpa using htm
         clear hT htm;go_wp2;go_quiet ((first | (with_reducible exact quiet_of_same' (hdig.out _))))
         go_wp2_with (go_at_call 289;refine (hnum.out _).mono ?_;rintro e w2 ⟨rfl,rfl⟩)
         refine aN (by kernel_rfl) (by kernel_rfl) (fun W hW=>?_);have hcw:∀ i:After W,i.w.cell? ⟨g,k,none⟩=some (.string t):=fun i=>i.cell (by rw [hW.out];exact hcell);quiet_step (fail)
         quiet_step (fail)
         quiet_step (fail)
         quiet_step (fail)
         quiet_step (exact Calls.after (HTX.out _))
         quiet_step (fail)
         quiet_step (fail)
         quiet_step (fail)
         quiet_step (fail)
         quiet_step (fail)
         quiet_step (fail)
         refine wpQuiet_nil ?_;rintro _ ⟨i,rfl⟩;have hib:=i.h;generalize i.w=wi at hib ⊢;rw [hW.out] at hib;clear hcw;go_wp2;go_ret;exact ⟨aH HE.out.symm,hbt.trans ((below_drewN' nq).trans (hib.mono (by simp;exact hbt.size)))⟩
       ·have HE:Hid (four (bl s)=false):=by rw [Hid,hT];simp [h255]
        have d5:decide (255<(m:Int))=true:=by simp;omega
        clear hT;go_wp2;go_quiet ((first | (with_reducible exact quiet_of_same' (hdig.out _))))
        go_wp2_with (go_at_call 289;refine (hnum.out _).mono ?_;rintro e w2 ⟨rfl,rfl⟩)
        go_quiet (fail)
        go_wp2;go_ret;exact ⟨aH HE.out.symm,hbt.trans ((below_drewN' _).trans (below_drewN' _))⟩
      ·have hnl:digits (bl t)<t.size:=by have:=(eX (bl t)).2 hall;rwa [aB] at this
       have d4:((digits (bl t):Int) != (t.size:Int))=true:=by rw [bne_iff_ne];omega
       have HE:Hid (four (bl s)=false):=by rw [Hid,hT];unfold mr;simp [hall]
       exact z45
     ·have d3:decide (3<(t.size:Int))=true:=by simp;omega
      have HE:Hid (four (bl s)=false):=by rw [Hid,hT];unfold mr;rw [aB];simp [h3]
      exact z45
    ·have d1:decide ((t.size:Int)<1)=true:=by simp;omega
     have HE:Hid (four (bl s)=false):=by rw [Hid,hT];unfold mr;rw [aB];simp [show ¬ 1<=t.size from h0]
     exact z45
   ·have HE:Hid (four (bl s)=true):=by rw [Hid,HP.out,List.drop_eq_nil_of_le (by omega)];rfl
    go_wp2;go_ret;exact ⟨aH HE.out.symm,hbt⟩
 ·have e4:((L.length:Int) != 4)=true:=by rw [bne_iff_ne];omega
  have HE:Hid (four (bl s)=false):=by rw [Hid,IB.out];simp [h4]
  clear h4;go_enter func269,ntmps269;go_wp2_with (go_at_call 270;refine (HS.out _).mono ?_;rintro e w1 ⟨v,rfl,hown,hbel⟩;obtain ⟨g,cap,rfl,hcells⟩:=nG hown hne;have HC:=aq hcells;clear hcells hown)
  exact z148
theorem pG (s:ByteArray) (w:World) (hs:s.size<=1073741824) :
 Calls prog 195 #[.string s] w fun e w'=>e=.returned (.bool (address (bl s)))/\Below w.heap.size w w':=by
 have HD:Hid (address (bl s)=(four (bl s) || bracket (bl s))):=rfl
 cases h4:four (bl s) with
 | true =>
   have HE:Hid (address (bl s)=true):=by rw [Hid,HD.out,h4];rfl
   go_enter func195,ntmps195;go_wp2_with (go_at_call 240;refine (IP s _ hs).mono ?_;rintro e w1 ⟨rfl,hb⟩)
   go_ret;exact ⟨aH HE.out.symm,hb⟩
 | false =>
   have HE:Hid (address (bl s)=bracket (bl s)):=by rw [Hid,HD.out,h4];rfl
   go_enter func195,ntmps195;go_wp2_with (first | (go_at_call 240;refine (IP s _ hs).mono ?_;rintro e w1 ⟨rfl,hb⟩) | (go_at_call 241;refine (Jj s _ hs).mono ?_;rintro e w2 ⟨rfl,hb2⟩))
   go_ret;exact ⟨aH HE.out.symm,below2 hb hb2⟩
theorem FO (s:ByteArray) (w:World) (hs:s.size<=1073741824) :
 Calls prog 247 #[.string s] w fun e w'=>e=.returned (.bool (address (bl s)))/\Below w.heap.size w w':=by
 have HD:Hid (address (bl s)=(four (bl s) || bracket (bl s))):=rfl
 cases h4:four (bl s) with
 | true =>
   have HE:Hid (address (bl s)=true):=by rw [Hid,HD.out,h4];rfl
   go_enter func247,ntmps247;go_wp2_with (go_at_call 269;refine (uq s _ hs).mono ?_;rintro e w1 ⟨rfl,hb⟩)
   go_ret;exact ⟨aH HE.out.symm,hb⟩
 | false =>
   have HE:Hid (address (bl s)=bracket (bl s)):=by rw [Hid,HD.out,h4];rfl
   go_enter func247,ntmps247;go_wp2_with (first | (go_at_call 269;refine (uq s _ hs).mono ?_;rintro e w1 ⟨rfl,hb⟩) | (go_at_call 272;refine (FI s _ hs).mono ?_;rintro e w2 ⟨rfl,rfl⟩))
   go_ret;exact ⟨aH HE.out.symm,hb⟩
theorem z107 {p : Prop} (h : p := by
 have HE : Hid (hname (bl s) = true) := by rw [Hid, HP.out, List.drop_eq_nil_of_le (by omega)]; rfl
 go_wp2
 go_ret
 exact ⟨aH HE.out.symm, below2 hb0 hbel⟩) : p := h
theorem name_any (s:ByteArray) (w:World) (hs:s.size<=1073741824) :
 Calls prog 194 #[.string s] w fun e w'=>e=.returned (.bool (hname (bl s)))/\Below w.heap.size w w':=by
 have hdef:hname (bl s)=(decide (s.size<=256) && !address (bl s) && labels (bl s)):=by unfold hname;rw [aB]
 by_cases h256:s.size<=256
 ·cases ha:address (bl s) with
  | true =>
    have HE:Hid (hname (bl s)=false):=by rw [Hid,hdef,ha];simp
    clear hdef;go_enter func194,ntmps194;go_wp2_with (go_at_call 195;refine (pG s _ hs).mono ?_;rintro e w1 ⟨rfl,hb⟩)
    go_ret;exact ⟨aH HE.out.symm,hb⟩
  | false =>
    obtain ⟨L,hL⟩:∃ L,L=splitB 46 (bl s):=⟨_,rfl⟩;have hsp:=fun (W:World)=>E8 s 46 W hs;have hne:L≠[]:=by rw [hL];exact jB _ _
    have hmem:Hid (∀ p∈L,p.length<=1073741824):=fun p hp=>by
        exact z94
    have HL:Hid (hname (bl s)=L.all label):=by rw [Hid,hdef,ha];unfold labels;rw [<- hL];simp [h256]
    rw [<- hL] at hsp;have hlen:L.length<=1073741825:=by rw [hL];exact ul 46 s hs
    have HS:=aq hsp;clear hsp hL hdef;go_enter func194,ntmps194;go_wp2_with (first
        | (go_at_call 195;refine (pG s _ hs).mono ?_;rintro e w0 ⟨rfl,hb0⟩)
        | (go_at_call 238;refine (HS.out _).mono ?_;rintro e w1 ⟨v,rfl,hown,hbel⟩;obtain ⟨g,cap,rfl,hcells⟩:=nG hown hne;have HC:=aq hcells;clear hcells hown))
    go_loop [4,15] (fun _ i=>∃ k:Nat,k<=L.length/\i=.int .i64 k/\hname (bl s)=(L.drop k).all label) (fun _ i=>L.length - (intOf i).toNat)
    case atStart=>exact ⟨0,Nat.zero_le _,rfl,HL.out⟩
    case round =>
        obtain ⟨k,hk,rfl,hpre⟩:=hrel;have HP:=aq hpre;clear hpre;by_cases hlt:k<L.length
        ·have hcell:=HC.out k hlt
         refine y49 ?_
         intro hD hml
         have hT:Hid (hname (bl s)=(label L[k] && (L.drop (k+1)).all label)):=by rw [Hid,HP.out,hD,List.all_cons]
         have BR:=fun (W:World)=>Ol (mkS L[k]) W (by rw [kN];exact hml);rw [mJ] at BR;have HLA:=aq BR;clear BR hD hml HP
         cases hq:label L[k] with
         | true =>
           rw [hq] at hT HLA;go_wp2_with (go_at_call 239;refine (HLA.out _).mono ?_;rintro e w2 ⟨rfl,rfl⟩)
           go_round
           case rel=>exact ⟨k+1,by omega,by go_num,by rw [hT.out];simp⟩
           case measure => exact z67
         | false =>
           rw [hq] at hT HLA;go_wp2_with (go_at_call 239;refine (HLA.out _).mono ?_;rintro e w2 ⟨rfl,rfl⟩)
           go_ret;exact ⟨aH (by rw [hT.out];rfl),below2 hb0 hbel⟩
        ·exact z107
 ·have HE:Hid (hname (bl s)=false):=by rw [Hid,hdef];simp [h256]
  clear hdef;go_enter func194,ntmps194
  exact z59
/-- an address in brackets has no labels -/
theorem C9 (l:Bytes) (h:bracket l=true):labels l=false:=by
 unfold bracket at h;simp only [Bool.and_eq_true,decide_eq_true_eq] at h;obtain ⟨⟨⟨⟨h4,_⟩,h91⟩,_⟩,_⟩:=h;match l,h4 with
 | x :: r,_ =>
   have hx:x.toNat=91:=by simpa using h91
   unfold labels
   cases hs:splitB 46 r with
   | nil=>exact absurd hs (jB _ _)
   | cons a b =>
     have:splitB 46 (x :: r)=(x :: a) :: b:=by rw [splitB,if_neg (by rw [hx];decide),hs]
     rw [this,List.all_cons];have hf:label (x :: a)=false:=by unfold label;simp [mD,hx]
     rw [hf];rfl
theorem Ot (l:Bytes):hname l=(decide (l.length<=256) && !four l && labels l):=by
 unfold hname address
 cases hb:bracket l with
 | false=>simp
 | true=>simp [C9 l hb]
theorem Ef (s:ByteArray) (w:World) (hs:s.size<=1073741824) :
 Calls prog 246 #[.string s] w fun e w'=>e=.returned (.bool (hname (bl s)))/\Below w.heap.size w w':=by
 have hdef:hname (bl s)=(decide (s.size<=256) && !four (bl s) && labels (bl s)):=by rw [Ot,aB]
 by_cases h256:s.size<=256
 ·cases ha:four (bl s) with
  | true =>
    have HE:Hid (hname (bl s)=false):=by rw [Hid,hdef,ha];simp
    clear hdef;go_enter func246,ntmps246;go_wp2_with (go_at_call 269;refine (uq s _ hs).mono ?_;rintro e w1 ⟨rfl,hb⟩)
    go_ret;exact ⟨aH HE.out.symm,hb⟩
  | false =>
    obtain ⟨L,hL⟩:∃ L,L=splitB 46 (bl s):=⟨_,rfl⟩;have hsp:=fun (W:World)=>AB s 46 W hs;have hne:L≠[]:=by rw [hL];exact jB _ _
    have hmem:Hid (∀ p∈L,p.length<=1073741824):=fun p hp=>by
        exact z94
    have HL:Hid (hname (bl s)=L.all label):=by rw [Hid,hdef,ha];unfold labels;rw [<- hL];simp [h256]
    rw [<- hL] at hsp;have hlen:L.length<=1073741825:=by rw [hL];exact ul 46 s hs
    have HS:=aq hsp;clear hsp hL hdef;go_enter func246,ntmps246;go_wp2_with (first
        | (go_at_call 269;refine (uq s _ hs).mono ?_;rintro e w0 ⟨rfl,hb0⟩)
        | (go_at_call 270;refine (HS.out _).mono ?_;rintro e w1 ⟨v,rfl,hown,hbel⟩;obtain ⟨g,cap,rfl,hcells⟩:=nG hown hne;have HC:=aq hcells;clear hcells hown))
    go_loop [4] (fun i=>∃ k:Nat,k<=L.length/\i=.int .i64 k/\hname (bl s)=(L.drop k).all label) (fun i=>L.length - (intOf i).toNat)
    case atStart=>exact ⟨0,Nat.zero_le _,rfl,HL.out⟩
    case round =>
        obtain ⟨k,hk,rfl,hpre⟩:=hrel;have HP:=aq hpre;clear hpre;by_cases hlt:k<L.length
        ·have hcell:=HC.out k hlt
         refine y49 ?_
         intro hD hml
         have hT:Hid (hname (bl s)=(label L[k] && (L.drop (k+1)).all label)):=by rw [Hid,HP.out,hD,List.all_cons]
         have BR:=fun (W:World)=>JV (mkS L[k]) W (by rw [kN];exact hml);rw [mJ] at BR;have HLA:=aq BR;clear BR hD hml HP
         cases hq:label L[k] with
         | true =>
           rw [hq] at hT HLA;go_wp2_with (go_at_call 271;refine (HLA.out _).mono ?_;rintro e w2 ⟨rfl,rfl⟩)
           go_round
           case rel=>exact ⟨k+1,by omega,by go_num,by rw [hT.out];simp⟩
           case measure => exact z67
         | false =>
           rw [hq] at hT HLA;go_wp2_with (go_at_call 271;refine (HLA.out _).mono ?_;rintro e w2 ⟨rfl,rfl⟩)
           go_ret;exact ⟨aH (by rw [hT.out];rfl),below2 hb0 hbel⟩
        ·exact z107
 ·have HE:Hid (hname (bl s)=false):=by rw [Hid,hdef];simp [h256]
  clear hdef;go_enter func246,ntmps246
  exact z59
def gm (l:Bytes):Bool:=decide (l.length<=256) && (hname l || address l)
def rC (l:Bytes):Int:=if 256<l.length then 3 else if hname (dP l)=true\/address (dP l)=true then 0 else 1
def oO (l:Bytes):Bytes:=if 256<l.length then [] else if hname (dP l)=true\/address (dP l)=true then dP l else []
theorem Po (s:ByteArray) (w:World) (hs:s.size<=1073741824) :
 Calls prog 153 #[.string s] w fun e w'=>e=.returned (.tuple #[.string (mkS (oO (bl s))),.int .i64 (rC (bl s))])/\Below w.heap.size w w':=by
 by_cases h256:s.size<=256
 ·have hlo:=fun (W:World)=>Ph s W hs
  obtain ⟨t,ht⟩:∃ t,t=mkS (dP (bl s)):=⟨_,rfl⟩;have hbt:dP (bl s)=bl t:=by rw [ht,mJ]
  have hts:t.size<=1073741824:=by rw [ht,kN];unfold dP;simp [aB];omega
  rw [<- ht] at hlo;have hE:rC (bl s)=if hname (bl t)=true\/address (bl t)=true then 0 else 1:=by unfold rC;rw [aB,if_neg (by omega),hbt]
  have hT:oO (bl s)=if hname (bl t)=true\/address (bl t)=true then bl t else []:=by unfold oO;rw [aB,if_neg (by omega),hbt]
  have HL:=aq hlo;clear hlo ht hbt
  cases hn:hname (bl t) with
  | true =>
    rw [hn,if_pos (bb rfl)] at hE hT;have HE:=aq hE;have HT:=aq hT;clear hE hT;go_enter func153,ntmps153;go_wp2_with (first
        | (go_at_call 193;refine (HL.out _).mono ?_;rintro e w1 ⟨rfl,hb1⟩)
        | (go_at_call 194;refine (name_any t _ hts).mono ?_;rintro e w2 ⟨rfl,hb2⟩))
    go_ret2;exact ⟨by rw [HE.out,HT.out,Bj];rfl,below2 hb1 hb2⟩
  | false =>
    cases ha:address (bl t) with
    | true =>
      rw [hn,ha,if_pos (bd rfl)] at hE hT;have HE:=aq hE;have HT:=aq hT;clear hE hT;go_enter func153,ntmps153;go_wp2_with (first
       | (go_at_call 193;refine (HL.out _).mono ?_;rintro e w1 ⟨rfl,hb1⟩)
       | (go_at_call 194;refine (name_any t _ hts).mono ?_;rintro e w2 ⟨rfl,hb2⟩)
       | (go_at_call 195;refine (pG t _ hts).mono ?_;rintro e w3 ⟨rfl,hb3⟩))
      go_ret2;exact ⟨by rw [HE.out,HT.out,Bj];rfl,below2 (below2 hb1 hb2) hb3⟩
    | false =>
      rw [hn,ha] at hE hT;have HE:=aq hE;have HT:=aq hT;clear hE hT;go_enter func153,ntmps153;go_wp2_with (first
       | (go_at_call 193;refine (HL.out _).mono ?_;rintro e w1 ⟨rfl,hb1⟩)
       | (go_at_call 194;refine (name_any t _ hts).mono ?_;rintro e w2 ⟨rfl,hb2⟩)
       | (go_at_call 195;refine (pG t _ hts).mono ?_;rintro e w3 ⟨rfl,hb3⟩))
      go_ret2;exact ⟨by rw [HE.out,HT.out,if_neg (by simp),if_neg (by simp)];rfl,below2 (below2 hb1 hb2) hb3⟩
 ·have HE:Hid (rC (bl s)=3):=by unfold Hid rC;rw [aB,if_pos (by omega)]
  have HT:Hid (oO (bl s)=[]):=by unfold Hid oO;rw [aB,if_pos (by omega)]
  go_enter func153,ntmps153;go_wp2;go_ret2;exact ⟨by rw [HE.out,HT.out];rfl,bh _ _⟩
theorem AX (s:ByteArray) (w:World) (hs:s.size<=1073741824) :
 Calls prog 202 #[.string s] w fun e w'=>e=.returned (.bool (gm (bl s)))/\Below w.heap.size w w':=by
 have hd:gm (bl s)=(decide (s.size<=256) && (hname (bl s) || address (bl s))):=by unfold gm;rw [aB]
 by_cases h256:s.size<=256
 ·cases hn:hname (bl s) with
  | true =>
    have HE:Hid (gm (bl s)=true):=by rw [Hid,hd,hn];simp [h256]
    clear hd;go_enter func202,ntmps202;go_wp2_with (go_at_call 246;refine (Ef s _ hs).mono ?_;rintro e w1 ⟨rfl,hb1⟩)
    go_ret;exact ⟨aH HE.out.symm,hb1⟩
  | false =>
    have HE:Hid (gm (bl s)=address (bl s)):=by rw [Hid,hd,hn];simp [h256]
    clear hd;go_enter func202,ntmps202;go_wp2_with (first
        | (go_at_call 246;refine (Ef s _ hs).mono ?_;rintro e w1 ⟨rfl,hb1⟩)
        | (go_at_call 247;refine (FO s _ hs).mono ?_;rintro e w2 ⟨rfl,hb2⟩))
    go_ret;exact ⟨aH HE.out.symm,below2 hb1 hb2⟩
 ·have HE:Hid (gm (bl s)=false):=by rw [Hid,hd];simp [h256]
  clear hd;go_enter func202,ntmps202
  exact z59
/-! ### what is gm has no capitals -/
theorem Ig {c:UInt8} (h:¬ (65<=c.toNat/\c.toNat<=90)):lowerB c=c:=by unfold lowerB;rw [if_neg h]
theorem qJ (c:UInt8):∀ (l:Bytes) (x:UInt8),x∈l->x.toNat=c.toNat\/∃ p∈splitB c l,x∈p
 | [],x,h=>by simp at h
 | y :: r,x,h=>by
   by_cases hy:y.toNat=c.toNat
   ·rcases List.mem_cons.1 h with rfl | h
    ·exact bb hy
    ·rcases qJ c r x h with h1 | ⟨p,hp,hx⟩
     ·exact bb h1
     ·exact bd ⟨p,by rw [splitB,if_pos hy];exact List.mem_cons_of_mem _ hp,hx⟩
   ·cases hs:splitB c r with
    | nil=>exact absurd hs (jB c r)
    | cons a b =>
      have e:splitB c (y :: r)=(y :: a) :: b:=by rw [splitB,if_neg hy,hs]
      rw [e];rcases List.mem_cons.1 h with rfl | h
      ·exact bd ⟨x :: a,by simp,by simp⟩
      ·rcases qJ c r x h with h1 | ⟨p,hp,hx⟩
       ·exact bb h1
       ·rw [hs] at hp
        rcases List.mem_cons.1 hp with rfl | hp
        ·exact bd ⟨y :: p,by simp,by simp [hx]⟩
        ·exact bd ⟨p,by simp [hp],hx⟩
theorem sQ {l:Bytes} (h:∀ x∈l,¬ (65<=x.toNat/\x.toNat<=90)):dP l=l:=by
 unfold dP;have:∀ x∈l,lowerB x=id x:=fun x hx=>Ig (h x hx);rw [List.map_congr_left this];simp
theorem sO {l:Bytes} (h:hname l=true):dP l=l:=by
 unfold hname labels at h;simp only [Bool.and_eq_true] at h;refine sQ fun x hx=>?_;rcases qJ 46 l x hx with h1 | ⟨p,hp,hxp⟩
 ·rw [h1];decide
 ·have hl:=List.all_eq_true.1 h.2 p hp
  unfold label at hl;simp only [Bool.and_eq_true] at hl;have:=List.all_eq_true.1 hl.1.1.2 x hxp;unfold mD at this;simp at this;omega
theorem pM {l:Bytes} (h:address l=true):dP l=l:=by
 unfold address at h;simp only [Bool.or_eq_true] at h;rcases h with h | h
 ·unfold four at h
  simp only [Bool.and_eq_true] at h;refine sQ fun x hx=>?_;rcases qJ 46 l x hx with h1 | ⟨p,hp,hxp⟩
  ·rw [h1];decide
  ·have hl:=List.all_eq_true.1 h.2 p hp
   unfold jQ at hl;simp only [Bool.and_eq_true] at hl;have:=oK (List.all_eq_true.1 hl.1.1.2 x hxp);omega
 ·unfold bracket at h
  simp only [Bool.and_eq_true,decide_eq_true_eq] at h;obtain ⟨⟨⟨⟨h4,_⟩,h91⟩,h93⟩,hm⟩:=h;refine sQ fun x hx=>?_;obtain ⟨i,hi,rfl⟩:=List.mem_iff_getElem.1 hx;by_cases h0:i=0
  ·subst h0
   have hh:l.head?=some l[0]:=by rw [List.head?_eq_getElem?];simp
   rw [hh] at h91;have:l[0].toNat=91:=by simpa using h91
   omega
  ·by_cases h1:i=l.length - 1
   ·subst h1
    have hh:l.getLast?=some l[l.length - 1]:=by rw [List.getLast?_eq_getElem?];simp
    rw [hh] at h93;have:l[l.length - 1].toNat=93:=by simpa using h93
    omega
   ·have hb:jq l[i]=true:=by
     refine List.all_eq_true.1 hm _ (List.mem_iff_getElem.2 ⟨i - 1,by simp;omega,?_⟩);rw [List.getElem_take,List.getElem_drop];simp only [show 1+(i - 1)=i by omega]
    unfold jq at hb;simp at hb;omega
theorem OX (l:Bytes):(decide (rC l=0) && decide (oO l=l))=gm l:=by
 unfold rC oO gm;by_cases h:256<l.length
 ·simp [h,show ¬ l.length<=256 by omega]
 ·by_cases hc:hname (dP l)=true\/address (dP l)=true
  ·have e:dP (dP l)=dP l:=by rcases hc with h1 | h1;exact sO h1;exact pM h1
   simp only [if_neg h,if_pos hc,show l.length<=256 by omega,decide_true,Bool.true_and];rw [Bool.eq_iff_iff,decide_eq_true_eq,Bool.or_eq_true];constructor
   ·intro e2;rw [e2] at hc;exact hc
   ·rintro (h1 | h1)
    ·exact sO h1
    ·exact pM h1
  ·have hc2:¬ (hname l=true\/address l=true):=by
        rintro (h1 | h1)
        ·exact hc (bb (by rw [sO h1];exact h1))
        ·exact hc (bd (by rw [pM h1];exact h1))
   simp only [if_neg h,if_neg hc];have h3:hname l=false:=by simpa using fun x=>hc2 (bb x)
   have h4:address l=false:=by simpa using fun x=>hc2 (bd x)
   simp [h3,h4]
end Go.Proofs.YthphepeniaemoaaGreat
