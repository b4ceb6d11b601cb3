/- Package host and its reference compute the plain functions of Defs. Conditions: texts of at most 2^30 bytes. -/
import Derived.Test.YtffobmpeeopadaaGreatRefA
set_option linter.unusedSimpArgs false
set_option linter.unusedVariables false
set_option linter.unnecessarySimpa false
set_option maxHeartbeats 16000000
set_option maxRecDepth 100000
open Go.Proofs.Tryz
namespace Go.Proofs.YtffobmpeeopadaaGreat
open Go.RowKit
def qM (c:UInt8) (e:Bool):Bool:=mX c && !(e && isDash c)
theorem wM (c:UInt8) (b:Bool) (w:World):Calls prog 251 #[.int .u8 c.toNat,.bool b] w fun e w'=>e=.returned (.bool (qM c b))/\w=w':=by
 by_cases h45:c.toNat=45
 ·have h1:((c.toNat:Int) == 45)=true:=beq_iff_eq.2 (by omega)
  have HC:=aa h45
  cases b with
  | true =>
    go_enter func251,ntmps251;go_wp2;go_ret;exact ⟨aB (by unfold qM isDash;simp [HC.out]),rfl⟩
  | false =>
    go_enter func251,ntmps251;go_wp2;go_ret;exact ⟨aB (by unfold qM mX;simp [HC.out]),rfl⟩
 ·have h1:((c.toNat:Int) == 45)=false:=beq_eq_false_iff_ne.2 (by omega)
  have HC:=aa h45;have HD:Hid (isDash c=false):=by unfold Hid isDash;simp [h45]
  clear h45;go_enter func251,ntmps251;go_wp2;all_goals
   go_ret;exact ⟨aB (by have h9:=HC.out;unfold qM;rw [HD.out];unfold mX;rw [Bool.eq_iff_iff];simp;(first | omega | (simp only [beq_iff_eq,beq_eq_false_iff_ne,ne_eq,bne_iff_ne,bne_eq_false_iff_eq,decide_eq_true_eq,decide_eq_false_iff_not,Bool.not_eq_eq_eq_not,Bool.not_true,Bool.not_false] at *;omega))),rfl⟩
theorem EK (c:UInt8) (w:World):Calls prog 275 #[.int .u8 c.toNat] w fun e w'=>e=.returned (.bool (mX c))/\w=w':=by
 go_enter func275,ntmps275;go_wp2;all_goals
  go_ret;exact ⟨aB (by unfold mX;rw [Bool.eq_iff_iff];simp;(first | omega | (simp only [beq_iff_eq,beq_eq_false_iff_ne,ne_eq,bne_iff_ne,bne_eq_false_iff_eq,decide_eq_true_eq,decide_eq_false_iff_not,Bool.not_eq_eq_eq_not,Bool.not_true,Bool.not_false] at *;omega))),rfl⟩
/-- what is left of a label's test -/
def jQ (l:Bytes) (k:Nat):Bool:=(l.drop k).all mX && (decide (0<k) || !(l.head?.any isDash)) && (decide (k=l.length) || !(l.getLast?.any isDash))
theorem CJ (l:Bytes) (k:Nat) (h:k<l.length):jQ l k=(qM l[k] (decide (k=0) || decide (k=l.length - 1)) && jQ l (k+1)):=by
 unfold jQ qM;rw [List.drop_eq_getElem_cons h,List.all_cons];have hh:l.head?=some l[0]:=by rw [List.head?_eq_getElem?];simp
 have hg:l.getLast?=some l[l.length - 1]:=by rw [List.getLast?_eq_getElem?];simp
 rw [hh,hg];simp only [Option.any_some];rw [Bool.eq_iff_iff];by_cases h0:k=0
 ·subst h0
  by_cases h1:l.length - 1=0
  ·have e1:l.length=1:=by omega
   simp only [e1];simp [e1];intros;grind
  ·have e1:¬ (0=l.length - 1):=by omega
   have e2:¬ (0=l.length):=by omega
   have e3:¬ (0+1=l.length):=by omega
   simp [e1,e2,e3];grind
 ·by_cases h1:k=l.length - 1
  ·subst h1
   have e2:¬ (l.length - 1=l.length):=by omega
   have e3:l.length - 1+1=l.length:=by omega
   simp [h0,e2,e3];grind
  ·have e2:¬ (k=l.length):=by omega
   have e3:¬ (k+1=l.length):=by omega
   simp [h0,h1,e2,e3];grind
theorem Rh (l:Bytes) (h1:1<=l.length) (h2:l.length<=63):label l=jQ l 0:=by
 unfold label jQ;have e:¬ (0=l.length):=by omega
 simp [h1,h2,e]
theorem Em (l:Bytes) (h:0<l.length):jQ l l.length=true:=by
 unfold jQ;simp [h]
theorem Su (s:ByteArray) (k:Nat) (h:k<s.size):(bl s)[k]'(by rw [aH];exact h)=s[k]:=rfl
theorem z51 {p : Prop} (h : p := by
 go_wp2
 go_ret
 exact ⟨aB HE.out.symm, rfl⟩) : p := h
theorem z43 {p : Prop} (h : p := by
 rw [HK.out] at HS
 cases hq : qM s[k] true with
 | true =>
   rw [hq] at HS
   go_wp2_with (go_at_call 251; refine (wM _ true _).mono ?_; rintro e w1 ⟨rfl, rfl⟩)
   go_round
   case rel => exact ⟨k + 1, by omega, by go_num, by rw [HS.out]; simp⟩
   case measure => exact z67
 | false =>
   rw [hq] at HS
   go_wp2_with (go_at_call 251; refine (wM _ true _).mono ?_; rintro e w1 ⟨rfl, rfl⟩)
   go_ret
   exact ⟨aB (by rw [HS.out]; simp), rfl⟩) : p := h
theorem Ph (s:ByteArray) (w:World) (hs:s.size<=1073741824) :
 Calls prog 225 #[.string s] w fun e w'=>e=.returned (.bool (label (bl s)))/\w=w':=by
 by_cases h0:0<s.size
 ·have he:=mQ h0
  have he':=lZ h0;by_cases h63:s.size<=63
  ·have HL:=aa (Rh (bl s) (by rw [aH];omega) (by rw [aH];omega))
   go_enter func225,ntmps225;go_wp2;go_loop [3,13] (fun _ i=>∃ k:Nat,k<=s.size/\i=.int .i64 k/\label (bl s)=jQ (bl s) k) (fun _ i=>s.size - (intOf i).toNat)
   case atStart=>exact ⟨0,Nat.zero_le _,rfl,HL.out⟩
   case round =>
        obtain ⟨k,hk,rfl,hpre⟩:=hrel;by_cases hlt:k<s.size
        ·have hst:=CJ (bl s) k hlt
         rw [Su s k hlt,aH] at hst;have HS:Hid (label (bl s)=(qM s[k] (decide (k=0) || decide (k=s.size - 1)) && jQ (bl s) (k+1))):=by rw [Hid,hpre,hst]
         clear hst hpre;by_cases hk0:k=0
         ·have e0:((k:Int) == 0)=true:=beq_iff_eq.2 (by omega)
          have HK:Hid ((decide (k=0) || decide (k=s.size - 1))=true):=by simp [Hid,hk0]
          have hk0':k<1:=by omega
          clear hk0
          exact z43
         ·have e0:((k:Int) == 0)=false:=beq_eq_false_iff_ne.2 (by omega)
          by_cases hk1:k=s.size - 1
          ·have e1:((k:Int) == (s.size:Int) - 1)=true:=beq_iff_eq.2 (by omega)
           have HK:Hid ((decide (k=0) || decide (k=s.size - 1))=true):=by simp [Hid,hk1]
           clear hk0 hk1
           exact z43
          ·have e1:((k:Int) == (s.size:Int) - 1)=false:=beq_eq_false_iff_ne.2 (by omega)
           have HK:Hid ((decide (k=0) || decide (k=s.size - 1))=false):=by simp [Hid,hk0,hk1]
           clear hk0 hk1;rw [HK.out] at HS
           cases hq:qM s[k] false with
           | true =>
             rw [hq] at HS;go_wp2_with (go_at_call 251;refine (wM _ false _).mono ?_;rintro e w1 ⟨rfl,rfl⟩)
             go_round
             case rel=>exact ⟨k+1,by omega,by go_num,by rw [HS.out];simp⟩
             case measure => exact z67
           | false =>
             rw [hq] at HS;go_wp2_with (go_at_call 251;refine (wM _ false _).mono ?_;rintro e w1 ⟨rfl,rfl⟩)
             go_ret;exact ⟨aB (by rw [HS.out];simp),rfl⟩
        ·have HE:Hid (label (bl s)=true):=by
          have:k=(bl s).length:=by rw [aH];omega
          rw [Hid,hpre,this];exact Em _ (by rw [aH];exact h0)
         clear hpre
         exact z51
  ·have HE:Hid (label (bl s)=false):=by
        unfold Hid label;rw [aH];simp [show ¬ s.size<=63 from h63]
   go_enter func225,ntmps225
   exact z51
 ·obtain rfl:s=ByteArray.empty:=lG (ww h0)
  have HE:Hid (label (bl ByteArray.empty)=false):=rfl;go_enter func225,ntmps225
  exact z51
theorem uk (s:ByteArray) (h:0<s.size):(bl s).head?=some s[0]:=by rw [List.head?_eq_getElem?,List.getElem?_eq_getElem (by rw [aH];exact h)];rfl
theorem GH (s:ByteArray) (h:0<s.size):(bl s).getLast?=some (s[s.size - 1]'(by omega)):=by
 rw [List.getLast?_eq_getElem?,List.getElem?_eq_getElem (by rw [aH];omega)];rfl
theorem z151 {p : Prop} (h : p := by
 go_enter func256, ntmps256
 exact z51) : p := h
theorem z125 {p : Prop} (h : p := by
 go_wp2
 go_ret
 exact ⟨aB (by rw [HP.out, HD.out]; rfl), rfl⟩) : p := h
theorem KJ (s:ByteArray) (w:World) (hs:s.size<=1073741824) :
 Calls prog 256 #[.string s] w fun e w'=>e=.returned (.bool (label (bl s)))/\w=w':=by
 by_cases h0:0<s.size
 ·by_cases h63:s.size<=63
  ·have hh:=uk s h0
   have hg:=GH s h0;by_cases ha:s[0].toNat=45
   ·have HE:Hid (label (bl s)=false):=by unfold Hid label;rw [hh];simp [isDash,ha]
    have e1:((s[0].toNat:Int) == 45)=true:=beq_iff_eq.2 (by omega);clear hh hg ha
    exact z151
   ·have e1:((s[0].toNat:Int) == 45)=false:=beq_eq_false_iff_ne.2 (by omega)
    by_cases hb:s[s.size - 1].toNat=45
    ·have HE:Hid (label (bl s)=false):=by unfold Hid label;rw [hg];simp [isDash,hb]
     have e2:((s[s.size - 1].toNat:Int) == 45)=true:=beq_iff_eq.2 (by omega);clear hh hg ha hb
     exact z151
    ·have e2:((s[s.size - 1].toNat:Int) == 45)=false:=beq_eq_false_iff_ne.2 (by omega)
     have HL:Hid (label (bl s)=(bl s).all mX):=by
      unfold Hid label;rw [hh,hg,aH];simp [isDash,ha,hb,h63,show 1<=s.size from h0]
     clear hh hg ha hb;go_enter func256,ntmps256;go_wp2;go_loop [3] (fun i=>∃ k:Nat,k<=s.size/\i=.int .i64 k/\label (bl s)=((bl s).drop k).all mX) (fun i=>s.size - (intOf i).toNat)
     case atStart=>exact ⟨0,Nat.zero_le _,rfl,HL.out⟩
     case round =>
      obtain ⟨k,hk,rfl,hpre⟩:=hrel;have HP:=aa hpre;clear hpre;by_cases hlt:k<s.size
      ·have HD:=aa (drop_cons s k hlt)
       cases hq:mX s[k] with
       | true =>
         go_wp2_with (go_at_call 275;refine (EK _ _).mono ?_;rintro e w1 ⟨rfl,rfl⟩)
         go_round
         case rel=>exact ⟨k+1,by omega,by go_num,by rw [HP.out,HD.out];simp [hq]⟩
         case measure => exact z67
       | false =>
         go_wp2_with (go_at_call 275;refine (EK _ _).mono ?_;rintro e w1 ⟨rfl,rfl⟩)
         go_ret;exact ⟨aB (by rw [HP.out,HD.out];simp [hq]),rfl⟩
      ·have HD:=aa (jl s k hlt)
       exact z125
  ·have HE:Hid (label (bl s)=false):=by
        unfold Hid label;rw [aH];simp [show ¬ s.size<=63 from h63]
   exact z151
 ·obtain rfl:s=ByteArray.empty:=lG (ww h0)
  have HE:Hid (label (bl ByteArray.empty)=false):=rfl
  exact z151
/-- the middle of an address in brackets -/
theorem zQ (s:ByteArray) (h4:4<=s.size):((bl s).drop 1).take ((bl s).length - 2)=bl (s.extract 1 (s.size - 1)):=by
 rw [gK,aH,List.drop_take];congr 1
theorem z69 {p : Prop} (h : p := by
 go_wp2
 go_ret
 exact ⟨aB HE.out.symm, Below.refl _ _⟩) : p := h
theorem z152 {p : Prop} (h : p := by
 go_enter func227, ntmps227
 exact z69) : p := h
theorem JQ (s:ByteArray) (w:World) (hs:s.size<=1073741824) :
 Calls prog 227 #[.string s] w fun e w'=>e=.returned (.bool (bracket (bl s)))/\Below w.heap.size w w':=by
 by_cases h4:4<=s.size
 ·by_cases h47:s.size<=47
  ·have h0:0<s.size:=by omega
   have hh:=uk s h0;have hg:=GH s h0;by_cases ha:s[0].toNat=91
   ·have e1:((s[0].toNat:Int) != 91)=false:=by rw [bne_eq_false_iff_eq];omega
    by_cases hb:s[s.size - 1].toNat=93
    ·have e2:((s[s.size - 1].toNat:Int) != 93)=false:=by rw [bne_eq_false_iff_eq];omega
     have HM:Hid (bracket (bl s)=(bl (s.extract 1 (s.size - 1))).all jG):=by
      unfold Hid bracket;rw [zQ s h4,hh,hg,aH];simp [ha,hb,h4,h47]
     obtain ⟨cap,w1,hconv,hb1,hz1,hcap,hby,hfr⟩:=DJ (P:=prog) 9 40 5 underlying9 underlying40 underlying5 w (s.extract 1 (s.size - 1));have hts:Hid ((s.extract 1 (s.size - 1)).size=s.size - 1 - 1):=by unfold Hid;simp <;> omega
     have hsx:(1:Int)<=(s.size:Int) - 1:=by omega
     have hsy:(s.size:Int) - 1<=(s.size:Int):=by omega
     have hsz:(0:Int)<=(s.size:Int) - 1:=by omega
     have hsw:((s.size:Int) - 1).toNat=s.size - 1:=by omega
     clear hh hg ha hb hfr hz1;go_enter func227,ntmps227;go_wp2;clear hconv;generalize s.extract 1 (s.size - 1)=t at *;go_loop [4,33] (fun _ i=>∃ k:Nat,k<=s.size - 1 - 1/\i=.int .i64 k/\bracket (bl s)=((bl t).drop k).all jG) (fun _ i=>s.size - (intOf i).toNat)
     case atStart=>exact ⟨0,Nat.zero_le _,rfl,HM.out⟩
     case round =>
      obtain ⟨k,hk,rfl,hpre⟩:=hrel;have HP:=aa hpre;clear hpre;by_cases hlt':k<s.size - 1 - 1
      ·have hlt:k<t.size:=by rw [hts.out];exact hlt'
       have HD:=aa (drop_cons t k hlt);have hck:=hby k hlt;rw [Su t k hlt,ar] at hck;have HY:Hid (jG t[k]=true->bracket (bl s)=((bl t).drop (k+1)).all jG):=fun h=>by rw [HP.out,HD.out];simp [h]
       have HN:Hid (jG t[k]=false->bracket (bl s)=false):=fun h=>by rw [HP.out,HD.out];simp [h]
       clear HP HD;generalize t[k]=c at *;clear hby;go_wp2;all_goals first
            | (go_ret;exact ⟨aB (HN.out (by unfold jG;rw [Bool.eq_iff_iff];simp;(first | omega | (simp only [beq_iff_eq,beq_eq_false_iff_ne,ne_eq,bne_iff_ne,bne_eq_false_iff_eq,decide_eq_true_eq,decide_eq_false_iff_not,Bool.not_eq_eq_eq_not,Bool.not_true,Bool.not_false] at *;omega)))).symm,hb1⟩)
            | (go_round
               case rel=>exact ⟨k+1,by omega,by go_num,HY.out (by unfold jG;simp;(first | omega | (simp only [beq_iff_eq,beq_eq_false_iff_ne,ne_eq,bne_iff_ne,bne_eq_false_iff_eq,decide_eq_true_eq,decide_eq_false_iff_not,Bool.not_eq_eq_eq_not,Bool.not_true,Bool.not_false] at *;omega)))⟩
               case measure=>simp [intOf] <;> omega)
      ·have HD:=aa (jl t k (by rw [hts.out];exact hlt'))
       go_wp2;go_ret;exact ⟨aB (by rw [HP.out,HD.out];rfl),hb1⟩
    ·have e2:((s[s.size - 1].toNat:Int) != 93)=true:=by rw [bne_iff_ne];omega
     have HE:Hid (bracket (bl s)=false):=by unfold Hid bracket;rw [hg];simp [hb]
     clear hh hg hb ha
     exact z152
   ·have e1:((s[0].toNat:Int) != 91)=true:=by rw [bne_iff_ne];omega
    have HE:Hid (bracket (bl s)=false):=by unfold Hid bracket;rw [hh];simp [ha]
    clear hh hg ha
    exact z152
  ·have HE:Hid (bracket (bl s)=false):=by unfold Hid bracket;rw [aH];simp [show ¬ s.size<=47 from h47]
   exact z152
 ·have HE:Hid (bracket (bl s)=false):=by unfold Hid bracket;rw [aH];simp [show ¬ 4<=s.size from h4]
  exact z152
theorem z153 {p : Prop} (h : p := by
 go_enter func257, ntmps257
 exact z51) : p := h
theorem Gi (s:ByteArray) (w:World) (hs:s.size<=1073741824) :
 Calls prog 257 #[.string s] w fun e w'=>e=.returned (.bool (bracket (bl s)))/\w=w':=by
 by_cases h4:4<=s.size
 ·by_cases h47:s.size<=47
  ·have h0:0<s.size:=by omega
   have hh:=uk s h0;have hg:=GH s h0;by_cases ha:s[0].toNat=91
   ·have e1:((s[0].toNat:Int) != 91)=false:=by rw [bne_eq_false_iff_eq];omega
    by_cases hb:s[s.size - 1].toNat=93
    ·have e2:((s[s.size - 1].toNat:Int) != 93)=false:=by rw [bne_eq_false_iff_eq];omega
     have HM:Hid (bracket (bl s)=(((bl s).take (s.size - 1)).drop 1).all jG):=by
      unfold Hid bracket;rw [zQ s h4,hh,hg,aH,gK];simp [ha,hb,h4,h47]
     clear hh hg ha hb;go_enter func257,ntmps257;go_wp2;go_loop [3,4] (fun i _=>∃ k:Nat,1<=k/\k<=s.size - 1/\i=.int .i64 k/\bracket (bl s)=(((bl s).take (s.size - 1)).drop k).all jG) (fun i _=>s.size - (intOf i).toNat)
     case atStart=>exact ⟨1,al _,by omega,rfl,HM.out⟩
     case round =>
      obtain ⟨k,hk1,hk,rfl,hpre⟩:=hrel;have HP:=aa hpre;clear hpre;by_cases hlt:k<s.size - 1
      ·have hlt2:k<s.size:=by omega
       have HD:Hid (((bl s).take (s.size - 1)).drop k=s[k] :: ((bl s).take (s.size - 1)).drop (k+1)):=by
            rw [Hid,List.drop_eq_getElem_cons (by simp [aH];omega),List.getElem_take];rfl
       have HY:Hid (jG s[k]=true->bracket (bl s)=(((bl s).take (s.size - 1)).drop (k+1)).all jG):=fun h=>by rw [HP.out,HD.out];simp [h]
       have HN:Hid (jG s[k]=false->bracket (bl s)=false):=fun h=>by rw [HP.out,HD.out];simp [h]
       clear HP HD;go_wp2;all_goals first
            | (go_ret;exact ⟨aB (HN.out (by unfold jG;rw [Bool.eq_iff_iff];simp;(first | omega | (simp only [beq_iff_eq,beq_eq_false_iff_ne,ne_eq,bne_iff_ne,bne_eq_false_iff_eq,decide_eq_true_eq,decide_eq_false_iff_not,Bool.not_eq_eq_eq_not,Bool.not_true,Bool.not_false] at *;omega)))).symm,rfl⟩)
            | (go_round
               case rel=>exact ⟨k+1,by omega,by omega,by go_num,HY.out (by unfold jG;simp;(first | omega | (simp only [beq_iff_eq,beq_eq_false_iff_ne,ne_eq,bne_iff_ne,bne_eq_false_iff_eq,decide_eq_true_eq,decide_eq_false_iff_not,Bool.not_eq_eq_eq_not,Bool.not_true,Bool.not_false] at *;omega)))⟩
               case measure=>simp [intOf] <;> omega)
      ·have HD:Hid (((bl s).take (s.size - 1)).drop k=[]):=by rw [Hid,List.drop_eq_nil_iff];simp [aH];omega
       have hge:(s.size:Int) - 1<=(k:Int):=by omega
       exact z125
    ·have e2:((s[s.size - 1].toNat:Int) != 93)=true:=by rw [bne_iff_ne];omega
     have HE:Hid (bracket (bl s)=false):=by unfold Hid bracket;rw [hg];simp [hb]
     clear hh hg hb ha
     exact z153
   ·have e1:((s[0].toNat:Int) != 91)=true:=by rw [bne_iff_ne];omega
    have HE:Hid (bracket (bl s)=false):=by unfold Hid bracket;rw [hh];simp [ha]
    clear hh hg ha
    exact z153
  ·have HE:Hid (bracket (bl s)=false):=by unfold Hid bracket;rw [aH];simp [show ¬ s.size<=47 from h47]
   exact z153
 ·have HE:Hid (bracket (bl s)=false):=by unfold Hid bracket;rw [aH];simp [show ¬ 4<=s.size from h4]
  exact z153
/-- a slice of strings that the callee made, read -/
theorem nY {w:World} {base:Nat} {E:TypeId} {v:Value} {L:List Bytes} (h:w.ownsRow base E 1 v L.length (nK L)) (hne:L≠[]) :
 ∃ g cap,v=.slice (some ⟨g,0,none⟩) L.length cap/\∀ j (hj:j<L.length),w.cell? ⟨g,j,none⟩=some (.string (mkS L[j])):=by
 have hc:=fun g (hg:v.ownBlock=some g)=>h.cells hg;rcases h.2 with ⟨rfl,hn⟩ | ⟨g,cap,cur,rfl,rest⟩
 ·exact absurd (List.length_eq_zero_iff.1 hn) hne
 ·refine ⟨g,cap,rfl,fun j hj=>?_⟩
  have:=hc g rfl j (.string (mkS L[j])) (by simp [nK,hj]);unfold Addr.add at this;split at this
  ·rename_i h0;subst h0;exact this
  ·simpa using this
theorem uf (c:UInt8) (s:ByteArray) (hs:s.size<=1073741824):(splitB c (bl s)).length<=1073741825:=by
 have:=uH c (bl s);rw [aH] at this;omega
theorem kY (c:UInt8):∀ (l:Bytes) (p:Bytes),p∈splitB c l->p.length<=l.length
 | [],p,h=>by simp [splitB] at h;subst h;simp
 | x :: r,p,h=>by
   unfold splitB at h;split at h
   ·rcases List.mem_cons.1 h with rfl | h
    ·simp
    ·have:=kY c r p h;simp;omega
   ·cases hs:splitB c r with
    | nil=>exact absurd hs (jM c r)
    | cons a b =>
      rw [hs] at h;rcases List.mem_cons.1 h with rfl | h
      ·have:=kY c r a (by rw [hs];simp);simp;omega
      ·have:=kY c r p (by rw [hs];simp [h]);simp;omega
/-- what decides on a number of an address -/
theorem QT (t:ByteArray):ku (bl t)=(decide (0<t.size) && ((bl t).all isDigit && (decide (kJ (bl t)<=255) && (decide (t.size<=1) || !((bl t).head?.any fun c=>decide (c.toNat=48)))))):=by
 unfold ku;rw [aH];simp [Nat.succ_le_iff,Bool.and_assoc]
theorem z55 {p : Prop} (h : p := by
 generalize number (bl t) = nv at nG
 have hnum := aa nG
 have hdig := aa xx
 clear nG xx hT
 go_wp2_with (first | (go_at_call 252; refine (hnum.out _).mono ?_; rintro e w2 ⟨rfl, rfl⟩) | (go_at_call 253; refine (hdig.out _).mono ?_; rintro e w2 ⟨rfl, rfl⟩))
 go_round
 case rel => exact ⟨k + 1, by omega, by go_num, HE.out⟩
 case measure => simp [intOf] <;> omega) : p := h
theorem z31 {p : Prop} (h : p := by
 generalize number (bl t) = nv at nG
 have hnum := aa nG
 have hdig := aa xx
 clear nG xx hT
 go_wp2_with (first | (go_at_call 252; refine (hnum.out _).mono ?_; rintro e w2 ⟨rfl, rfl⟩) | (go_at_call 253; refine (hdig.out _).mono ?_; rintro e w2 ⟨rfl, rfl⟩))
 go_ret
 exact ⟨aB HE.out.symm, hbel⟩) : p := h
theorem z97 {p : Prop} (h : p := by have := kY 46 (bl s) p (by rw [<- hL]; exact hp); rw [aH] at this; omega) : p := h
theorem z154 {p : Prop} (h : p := by
 go_ret
 exact ⟨aB HE.out.symm, hbel⟩) : p := h
theorem y51 {p q : Prop} (k : q) (h : PLift q -> p := by
 intro kk
 have hD : L.drop k = L[k] :: L.drop (k + 1) := List.drop_eq_getElem_cons hlt
 have hml := hmem.out L[k] (List.getElem_mem hlt)
 revert hD hml
 exact kk.down) : p := h ⟨k⟩
theorem Jo (s:ByteArray) (w:World) (hs:s.size<=1073741824) :
 Calls prog 226 #[.string s] w fun e w'=>e=.returned (.bool (four (bl s)))/\Below w.heap.size w w':=by
 obtain ⟨L,hL⟩:∃ L,L=splitB 46 (bl s):=⟨_,rfl⟩;have hsp:=fun (W:World)=>FP s 46 W hs;have hne:L≠[]:=by rw [hL];exact jM _ _
 have hmem:Hid (∀ p∈L,p.length<=1073741824):=fun p hp=>by
  exact z97
 have Jg:Hid (four (bl s)=(decide (L.length=4) && L.all ku)):=by unfold Hid four;rw [hL]
 rw [<- hL] at hsp;have hlen:L.length<=1073741825:=by rw [hL];exact uf 46 s hs
 have HS:=aa hsp;clear hsp hL;by_cases h4:L.length=4
 ·have e4:((L.length:Int) != 4)=false:=by rw [bne_eq_false_iff_eq];omega
  have H4:=aa h4;have hlt4:L.length<=4:=by omega
  clear h4;go_enter func226,ntmps226;go_wp2_with (go_at_call 224;refine (HS.out _).mono ?_;rintro e w1 ⟨v,rfl,hown,hbel⟩;obtain ⟨g,cap,rfl,hcells⟩:=nY hown hne;have HC:=aa hcells;clear hcells hown)
  go_loop [5,6,7,15,19] (fun _ _ _ i _=>∃ k:Nat,k<=L.length/\i=.int .i64 k/\four (bl s)=(L.drop k).all ku) (fun _ _ _ i _=>L.length - (intOf i).toNat)
  case atStart=>exact ⟨0,Nat.zero_le _,rfl,by rw [Jg.out,H4.out];simp⟩
  case round =>
   obtain ⟨k,hk,rfl,hpre⟩:=hrel;have HP:=aa hpre;clear hpre;by_cases hlt:k<L.length
   ·have hcell:=HC.out k hlt
    refine y51 ?_
    intro hD hml
    have hO:=QT (mkS L[k]);rw [ny] at hO;have hT:Hid (four (bl s)=(ku L[k] && (L.drop (k+1)).all ku)):=by rw [Hid,HP.out,hD,List.all_cons]
    rw [hO] at hT;obtain ⟨t,ht⟩:∃ t,t=mkS L[k]:=⟨_,rfl⟩;rw [<- ht] at hcell hT;have hbt:L[k]=bl t:=by rw [ht,ny]
    rw [hbt] at hT;have hts:t.size<=1073741824:=by rw [ht,lq];exact hml
    clear HP hO ht hbt hml hD;have nG:=fun (W:World)=>Nh t W hts;have xx:=fun (W:World)=>wE t W (by unfold maxLen;omega);have hdl:=qF (bl t);rw [aH] at hdl;by_cases h0:0<t.size
    ·have hse:=mQ h0
     have hse':=lZ h0;have hhd:=uk t h0;by_cases hall:(bl t).all isDigit=true
     ·have hnl:¬ digits (bl t)<t.size:=fun h=>(eU (bl t)).1 (by rw [aH];exact h) hall
      have Rz:¬ (0<t.size/\∀ h:0<t.size,t[0].toNat=45):=fun ⟨_,h⟩=>by
            have h9:=vG hall h0;have:=h h0;simp [isDigit,this] at h9
      have hnv:=qW t Rz;rw [if_pos ⟨h0,hall⟩] at hnv;rw [hnv] at nG;simp only at nG;have hnb:=wZ (bl t) hall;by_cases h255:kJ (bl t)<=255
      ·by_cases h1:t.size<=1
       ·have HE:Hid (four (bl s)=(L.drop (k+1)).all ku):=by rw [Hid,hT];simp [h0,hall,h255,h1]
        exact z55
       ·by_cases h48:t[0].toNat=48
        ·have HE:Hid (four (bl s)=false):=by rw [Hid,hT,hhd];simp [h1,h48]
         have e48:((t[0].toNat:Int) == 48)=true:=beq_iff_eq.2 (by omega)
         exact z31
        ·have HE:Hid (four (bl s)=(L.drop (k+1)).all ku):=by rw [Hid,hT,hhd];simp [h0,hall,h255,h48]
         have e48:((t[0].toNat:Int) == 48)=false:=beq_eq_false_iff_ne.2 (by omega)
         exact z55
      ·have HE:Hid (four (bl s)=false):=by rw [Hid,hT];simp [h255]
       exact z31
     ·have hnl:digits (bl t)<t.size:=by have:=(eU (bl t)).2 hall;rwa [aH] at this
      have HE:Hid (four (bl s)=false):=by rw [Hid,hT];simp [hall]
      exact z31
    ·have hse:=lY h0
     have hse':=oq h0;have HE:Hid (four (bl s)=false):=by rw [Hid,hT];simp [h0]
     exact z31
   ·have HE:Hid (four (bl s)=true):=by rw [Hid,HP.out,List.drop_eq_nil_of_le (by omega)];rfl
    go_wp2
    exact z154
 ·have e4:((L.length:Int) != 4)=true:=by rw [bne_iff_ne];omega
  have HE:Hid (four (bl s)=false):=by rw [Hid,Jg.out];simp [h4]
  clear h4;go_enter func226,ntmps226;go_wp2_with (go_at_call 224;refine (HS.out _).mono ?_;rintro e w1 ⟨v,rfl,hown,hbel⟩;obtain ⟨g,cap,rfl,hcells⟩:=nY hown hne;have HC:=aa hcells;clear hcells hown)
  exact z154
/-- what the reference asks of a number of an address -/
def mW (p:Bytes):Bool:=decide (1<=p.length) && decide (p.length<=3) && p.all isDigit && decide (kJ p<=255) && decide (kP (kJ p).toNat=p)
theorem Jp:∀ (l:Bytes) (n:Int),0<=n->n<=1099511627776->l.all isDigit=true->n<=l.foldl dW n
 | [],_,_,_,_=>Int.le_refl _
 | c :: r,n,h0,h1,hl=>by
   simp only [List.all_cons,Bool.and_eq_true] at hl;have h2:=qX h0 hl.1;have h3:=Jp r (dW n c) h2.1 h2.2 hl.2;have hd:=hl.1;unfold isDigit at hd;simp at hd;have h4:n<=dW n c:=by unfold dW;omega
   exact Int.le_trans h4 h3
theorem oM {c:UInt8} (h:isDigit c=true):48<=c.toNat/\c.toNat<=57:=by simpa [isDigit] using h
theorem oD (n:Nat) (c:UInt8) (h:n=c.toNat):UInt8.ofNat n=c:=by
 apply UInt8.toNat_inj.1;rw [h];simp
theorem OY (p:Bytes):ku p=mW p:=by
 match p with
 | []=>rfl
 | [a] =>
   unfold ku mW;by_cases ha:isDigit a=true
   ·have h:=oM ha
    have hn:kJ [a]=((a.toNat - 48:Nat):Int):=by simp [kJ,dW];omega
    have ht:kP (a.toNat - 48)=[a]:=by rw [iZ _ (by omega),oD _ a (by omega)]
    rw [hn];simp [ha,ht]; 
   ·simp [ha]
 | [a,b] =>
   unfold ku mW;by_cases ha:isDigit a=true
   ·by_cases hb:isDigit b=true
    ·have h1:=oM ha
     have h2:=oM hb;have hn:kJ [a,b]=(((a.toNat - 48) * 10+(b.toNat - 48):Nat):Int):=by simp [kJ,dW];omega
     rw [hn];by_cases h0:a.toNat=48
     ·have ht:kP ((a.toNat - 48) * 10+(b.toNat - 48))=[b]:=by rw [h0];simp;rw [iZ _ (by omega),oD _ b (by omega)]
      simp [ha,hb,h0];rw [h0] at ht;simp at ht;rw [ht];simp
     ·have ht:kP ((a.toNat - 48) * 10+(b.toNat - 48))=[a,b]:=by
       rw [nX _ (by omega),iZ _ (by omega),oD _ a (by omega),oD _ b (by omega)];rfl
      rw [Int.toNat_natCast,ht];simp [ha,hb,h0]
    ·simp [ha,hb]
   ·simp [ha]
 | [a,b,c] =>
   unfold ku mW;by_cases ha:isDigit a=true
   ·by_cases hb:isDigit b=true
    ·by_cases hc:isDigit c=true
     ·have h1:=oM ha
      have h2:=oM hb;have h3:=oM hc;have hn:kJ [a,b,c]=(((a.toNat - 48) * 100+(b.toNat - 48) * 10+(c.toNat - 48):Nat):Int):=by simp [kJ,dW];omega
      rw [hn];by_cases h0:a.toNat=48
      ·have ht:kP ((a.toNat - 48) * 100+(b.toNat - 48) * 10+(c.toNat - 48))≠[a,b,c]:=by
             intro h;have hl:=congrArg List.length h;by_cases hs:(a.toNat - 48) * 100+(b.toNat - 48) * 10+(c.toNat - 48)<10
             ·rw [iZ _ hs] at hl;simp at hl
             ·rw [nX _ hs,iZ _ (by omega)] at hl;simp at hl
       simp [ha,hb,hc,h0] at ht ⊢;intro _;exact ht
      ·have ht:kP ((a.toNat - 48) * 100+(b.toNat - 48) * 10+(c.toNat - 48))=[a,b,c]:=by
             rw [nX _ (by omega),nX _ (by omega),iZ _ (by omega),oD _ a (by omega),oD _ b (by omega),oD _ c (by omega)];rfl
       rw [Int.toNat_natCast,ht];simp [ha,hb,hc,h0]
     ·simp [ha,hb,hc]
    ·simp [ha,hb]
   ·simp [ha]
 | a :: b :: c :: d :: r =>
   have e2:mW (a :: b :: c :: d :: r)=false:=by unfold mW;simp
   rw [e2];by_cases hall:(a :: b :: c :: d :: r).all isDigit=true
   ·by_cases h0:a.toNat=48
    ·unfold ku;simp [h0]
    ·have hx:=hall
     simp only [List.all_cons,Bool.and_eq_true] at hx;obtain ⟨ha,hb,hc,hd,hr⟩:=hx;have h1:=oM ha;have h2:=oM hb;have h3:=oM hc;have h4:=oM hd;have hs:[a,b,c,d].foldl dW 0=(((a.toNat - 48) * 1000+(b.toNat - 48) * 100+(c.toNat - 48) * 10+(d.toNat - 48):Nat):Int):=by simp [dW];omega
     have hg:=Jp r ([a,b,c,d].foldl dW 0) (by rw [hs];omega) (by rw [hs];omega) hr;have hn:¬ kJ (a :: b :: c :: d :: r)<=255:=by
      have:kJ (a :: b :: c :: d :: r)=r.foldl dW ([a,b,c,d].foldl dW 0):=rfl;rw [this,hs];rw [hs] at hg;omega
     unfold ku;simp [hn]
   ·unfold ku;simp only [hall];simp
theorem quiet_of_same' {P:Program} {f:FuncId} {args:Array Value} {w:World} {n:Nat} {v:Value}
 (h:Calls P f args (w.drewN n) fun e w'=>e=.returned v/\w.drewN n=w'):Calls P f args (w.drewN n) fun e w''=>e=.returned v/\∃ m,w''=w.drewN m :=
 h.mono fun _ _ ⟨he,hm⟩=>⟨he,n,hm.symm⟩
theorem z46 {p : Prop} (h : p := by
 generalize number (bl t) = nv at nG
 have hnum := aa nG
 have hdig := aa xx
 clear nG xx hT
 go_wp2
 go_quiet ((first | (with_reducible exact quiet_of_same' (hdig.out _))))
 go_wp2
 go_ret
 exact ⟨aB HE.out.symm, hbt.trans (below_drewN' _)⟩) : p := h
theorem uj (s:ByteArray) (w:World) (hs:s.size<=1073741824) :
 Calls prog 254 #[.string s] w fun e w'=>e=.returned (.bool (four (bl s)))/\Below w.heap.size w w':=by
 obtain ⟨L,hL⟩:∃ L,L=splitB 46 (bl s):=⟨_,rfl⟩;have hsp:=fun (W:World)=>Bo s 46 W hs;have hne:L≠[]:=by rw [hL];exact jM _ _
 have hmem:Hid (∀ p∈L,p.length<=1073741824):=fun p hp=>by
  exact z97
 have Jg:Hid (four (bl s)=(decide (L.length=4) && L.all ku)):=by unfold Hid four;rw [hL]
 rw [<- hL] at hsp;have hlen:L.length<=1073741825:=by rw [hL];exact uf 46 s hs
 have HS:=aa hsp;clear hsp hL;by_cases h4:L.length=4
 ·have e4:((L.length:Int) != 4)=false:=by rw [bne_eq_false_iff_eq];omega
  have H4:=aa h4;have hlt4:L.length<=4:=by omega
  have hge4:4<=L.length:=by omega
  clear h4;go_enter func254,ntmps254;go_wp2_with (go_at_call 255;refine (HS.out _).mono ?_;rintro e w1 ⟨v,rfl,hown,hbel⟩;obtain ⟨g,cap,rfl,hcells⟩:=nY hown hne;have HC:=aa hcells;clear hcells hown)
  go_loopw [4,5,6] (fun i _ _ wr=>∃ k:Nat,k<=L.length/\i=.int .i64 k/\four (bl s)=(L.drop k).all ku/\Below w1.heap.size w1 wr) (fun i _ _ _=>L.length - (intOf i).toNat)
  case atStart=>exact ⟨0,Nat.zero_le _,rfl,by rw [Jg.out,H4.out];simp,Below.refl _ _⟩
  case round =>
   obtain ⟨k,hk,rfl,hpre,hbr⟩:=hrel;have HP:=aa hpre;clear hpre;have hbt:=below2 hbel hbr;by_cases hlt:k<L.length
   ·have hcell:=kept hbr (HC.out k hlt)
    have hk4:k<4:=by omega
    refine y51 ?_
    intro hD hml
    have hT:Hid (four (bl s)=(mW L[k] && (L.drop (k+1)).all ku)):=by rw [Hid,HP.out,hD,List.all_cons,OY]
    obtain ⟨t,ht⟩:∃ t,t=mkS L[k]:=⟨_,rfl⟩;rw [<- ht] at hcell;have Di:L[k]=bl t:=by rw [ht,ny]
    rw [Di] at hT;have hts:t.size<=1073741824:=by rw [ht,lq];exact hml
    clear HP ht Di hml hD;have nG:=fun (W:World)=>Iq t W hts;have xx:=fun (W:World)=>pq t W (by unfold maxLen;omega);by_cases h0:0<t.size
    ·have d1:decide ((t.size:Int)<1)=false:=by simp;omega
     by_cases h3:t.size<=3
     ·have d3:decide (3<(t.size:Int))=false:=by simp;omega
      by_cases hall:(bl t).all isDigit=true
      ·have hnl:¬ digits (bl t)<t.size:=fun h=>(eU (bl t)).1 (by rw [aH];exact h) hall
       have hdl:=qF (bl t);rw [aH] at hdl;have d4:((digits (bl t):Int) != (t.size:Int))=false:=by rw [bne_eq_false_iff_eq];omega
       have Rz:¬ (0<t.size/\∀ h:0<t.size,t[0].toNat=45):=fun ⟨_,h⟩=>by
              have h9:=vG hall h0;have:=h h0;simp [isDigit,this] at h9
       have hnv:=qW t Rz;rw [if_pos ⟨h0,hall⟩] at hnv;have hnb:=wZ (bl t) hall;obtain ⟨m,hm⟩:∃ m:Nat,kJ (bl t)=(m:Int):=⟨(kJ (bl t)).toNat,by omega⟩;rw [hnv,hm] at nG;simp only at nG;have hm2:m<=1099511627776:=by omega
       have hO:mW (bl t)=(decide (m<=255) && decide (kP m=bl t)):=by
              unfold mW;rw [hall,hm,Int.toNat_natCast,aH];rw [show decide ((m:Int)<=255)=decide (m<=255) by rw [Bool.eq_iff_iff];simp;omega];simp [h3,show 1<=t.size from h0]
       rw [hO] at hT;have htx:=fun (W:World)=>OB m W (by omega);have hnum:=aa nG;have hdig:=aa xx;have HTX:=aa htx;clear nG xx htx hnv hm hnb hO hnl hall;by_cases h255:m<=255
       ·have d5:decide (255<(m:Int))=false:=by simp;omega
        by_cases htm:kP m=bl t
        ·have HE:Hid (four (bl s)=(L.drop (k+1)).all ku):=by rw [Hid,hT];simp [h255,htm]
         have d6:((mkS (kP m)).toList == t.toList)=true:=by rw [nJ,ny];simp [htm]
         clear hT htm;go_wp2;go_quiet ((first | (with_reducible exact quiet_of_same' (hdig.out _))))
         go_wp2_with (go_at_call 273;refine (hnum.out _).mono ?_;rintro e w2 ⟨rfl,rfl⟩)
         refine aJ (by kernel_rfl) (by kernel_rfl) (fun W hW=>?_);have hcw:∀ i:After W,i.w.cell? ⟨g,k,none⟩=some (.string t):=fun i=>i.cell (by rw [hW.out];exact hcell);quiet_step (fail)
         quiet_step (fail)
         quiet_step (fail)
         quiet_step (fail)
         quiet_step (exact Calls.after (HTX.out _))
         quiet_step (fail)
         quiet_step (fail)
         quiet_step (fail)
         quiet_step (fail)
         quiet_step (fail)
         quiet_step (fail)
         refine wpQuiet_nil ?_;rintro _ ⟨i,rfl⟩;have hib:=i.h;generalize i.w=wi at hib ⊢;rw [hW.out] at hib;clear hcw;go_wp2;go_roundw
         case rel=>exact ⟨k+1,by omega,by go_num,HE.out,hbr.trans ((below_drewN' (B:=w1.heap.size) nq).trans (hib.mono (by simp;exact hbr.size)))⟩
         case measure => exact z67
        ·have HE:Hid (four (bl s)=false):=by rw [Hid,hT];simp [htm]
         have d6:((mkS (kP m)).toList == t.toList)=false:=by rw [nJ,ny];simpa using htm
         clear hT htm;go_wp2;go_quiet ((first | (with_reducible exact quiet_of_same' (hdig.out _))))
         go_wp2_with (go_at_call 273;refine (hnum.out _).mono ?_;rintro e w2 ⟨rfl,rfl⟩)
         refine aJ (by kernel_rfl) (by kernel_rfl) (fun W hW=>?_);have hcw:∀ i:After W,i.w.cell? ⟨g,k,none⟩=some (.string t):=fun i=>i.cell (by rw [hW.out];exact hcell);quiet_step (fail)
         quiet_step (fail)
         quiet_step (fail)
         quiet_step (fail)
         quiet_step (exact Calls.after (HTX.out _))
         quiet_step (fail)
         quiet_step (fail)
         quiet_step (fail)
         quiet_step (fail)
         quiet_step (fail)
         quiet_step (fail)
         refine wpQuiet_nil ?_;rintro _ ⟨i,rfl⟩;have hib:=i.h;generalize i.w=wi at hib ⊢;rw [hW.out] at hib;clear hcw;go_wp2;go_ret;exact ⟨aB HE.out.symm,hbt.trans ((below_drewN' nq).trans (hib.mono (by simp;exact hbt.size)))⟩
       ·have HE:Hid (four (bl s)=false):=by rw [Hid,hT];simp [h255]
        have d5:decide (255<(m:Int))=true:=by simp;omega
        clear hT;go_wp2;go_quiet ((first | (with_reducible exact quiet_of_same' (hdig.out _))))
        go_wp2_with (go_at_call 273;refine (hnum.out _).mono ?_;rintro e w2 ⟨rfl,rfl⟩)
        go_quiet (fail)
        go_wp2;go_ret;exact ⟨aB HE.out.symm,hbt.trans ((below_drewN' _).trans (below_drewN' _))⟩
      ·have hnl:digits (bl t)<t.size:=by have:=(eU (bl t)).2 hall;rwa [aH] at this
       have d4:((digits (bl t):Int) != (t.size:Int))=true:=by rw [bne_iff_ne];omega
       have HE:Hid (four (bl s)=false):=by rw [Hid,hT];unfold mW;simp [hall]
       exact z46
     ·have d3:decide (3<(t.size:Int))=true:=by simp;omega
      have HE:Hid (four (bl s)=false):=by rw [Hid,hT];unfold mW;rw [aH];simp [h3]
      exact z46
    ·have d1:decide ((t.size:Int)<1)=true:=by simp;omega
     have HE:Hid (four (bl s)=false):=by rw [Hid,hT];unfold mW;rw [aH];simp [show ¬ 1<=t.size from h0]
     exact z46
   ·have HE:Hid (four (bl s)=true):=by rw [Hid,HP.out,List.drop_eq_nil_of_le (by omega)];rfl
    go_wp2;go_ret;exact ⟨aB HE.out.symm,hbt⟩
 ·have e4:((L.length:Int) != 4)=true:=by rw [bne_iff_ne];omega
  have HE:Hid (four (bl s)=false):=by rw [Hid,Jg.out];simp [h4]
  clear h4;go_enter func254,ntmps254;go_wp2_with (go_at_call 255;refine (HS.out _).mono ?_;rintro e w1 ⟨v,rfl,hown,hbel⟩;obtain ⟨g,cap,rfl,hcells⟩:=nY hown hne;have HC:=aa hcells;clear hcells hown)
  exact z154
theorem pM (s:ByteArray) (w:World) (hs:s.size<=1073741824) :
 Calls prog 183 #[.string s] w fun e w'=>e=.returned (.bool (address (bl s)))/\Below w.heap.size w w':=by
 have HD:Hid (address (bl s)=(four (bl s) || bracket (bl s))):=rfl
 cases h4:four (bl s) with
 | true =>
   have HE:Hid (address (bl s)=true):=by rw [Hid,HD.out,h4];rfl
   go_enter func183,ntmps183;go_wp2_with (go_at_call 226;refine (Jo s _ hs).mono ?_;rintro e w1 ⟨rfl,hb⟩)
   go_ret;exact ⟨aB HE.out.symm,hb⟩
 | false =>
   have HE:Hid (address (bl s)=bracket (bl s)):=by rw [Hid,HD.out,h4];rfl
   go_enter func183,ntmps183;go_wp2_with (first | (go_at_call 226;refine (Jo s _ hs).mono ?_;rintro e w1 ⟨rfl,hb⟩) | (go_at_call 227;refine (JQ s _ hs).mono ?_;rintro e w2 ⟨rfl,hb2⟩))
   go_ret;exact ⟨aB HE.out.symm,below2 hb hb2⟩
theorem Gp (s:ByteArray) (w:World) (hs:s.size<=1073741824) :
 Calls prog 233 #[.string s] w fun e w'=>e=.returned (.bool (address (bl s)))/\Below w.heap.size w w':=by
 have HD:Hid (address (bl s)=(four (bl s) || bracket (bl s))):=rfl
 cases h4:four (bl s) with
 | true =>
   have HE:Hid (address (bl s)=true):=by rw [Hid,HD.out,h4];rfl
   go_enter func233,ntmps233;go_wp2_with (go_at_call 254;refine (uj s _ hs).mono ?_;rintro e w1 ⟨rfl,hb⟩)
   go_ret;exact ⟨aB HE.out.symm,hb⟩
 | false =>
   have HE:Hid (address (bl s)=bracket (bl s)):=by rw [Hid,HD.out,h4];rfl
   go_enter func233,ntmps233;go_wp2_with (first | (go_at_call 254;refine (uj s _ hs).mono ?_;rintro e w1 ⟨rfl,hb⟩) | (go_at_call 257;refine (Gi s _ hs).mono ?_;rintro e w2 ⟨rfl,rfl⟩))
   go_ret;exact ⟨aB HE.out.symm,hb⟩
theorem z110 {p : Prop} (h : p := by
 have HE : Hid (hname (bl s) = true) := by rw [Hid, HP.out, List.drop_eq_nil_of_le (by omega)]; rfl
 go_wp2
 go_ret
 exact ⟨aB HE.out.symm, below2 hb0 hbel⟩) : p := h
theorem name_any (s:ByteArray) (w:World) (hs:s.size<=1073741824) :
 Calls prog 182 #[.string s] w fun e w'=>e=.returned (.bool (hname (bl s)))/\Below w.heap.size w w':=by
 have hdef:hname (bl s)=(decide (s.size<=256) && !address (bl s) && labels (bl s)):=by unfold hname;rw [aH]
 by_cases h256:s.size<=256
 ·cases ha:address (bl s) with
  | true =>
    have HE:Hid (hname (bl s)=false):=by rw [Hid,hdef,ha];simp
    clear hdef;go_enter func182,ntmps182;go_wp2_with (go_at_call 183;refine (pM s _ hs).mono ?_;rintro e w1 ⟨rfl,hb⟩)
    go_ret;exact ⟨aB HE.out.symm,hb⟩
  | false =>
    obtain ⟨L,hL⟩:∃ L,L=splitB 46 (bl s):=⟨_,rfl⟩;have hsp:=fun (W:World)=>FP s 46 W hs;have hne:L≠[]:=by rw [hL];exact jM _ _
    have hmem:Hid (∀ p∈L,p.length<=1073741824):=fun p hp=>by
        exact z97
    have HL:Hid (hname (bl s)=L.all label):=by rw [Hid,hdef,ha];unfold labels;rw [<- hL];simp [h256]
    rw [<- hL] at hsp;have hlen:L.length<=1073741825:=by rw [hL];exact uf 46 s hs
    have HS:=aa hsp;clear hsp hL hdef;go_enter func182,ntmps182;go_wp2_with (first
        | (go_at_call 183;refine (pM s _ hs).mono ?_;rintro e w0 ⟨rfl,hb0⟩)
        | (go_at_call 224;refine (HS.out _).mono ?_;rintro e w1 ⟨v,rfl,hown,hbel⟩;obtain ⟨g,cap,rfl,hcells⟩:=nY hown hne;have HC:=aa hcells;clear hcells hown))
    go_loop [4,15] (fun _ i=>∃ k:Nat,k<=L.length/\i=.int .i64 k/\hname (bl s)=(L.drop k).all label) (fun _ i=>L.length - (intOf i).toNat)
    case atStart=>exact ⟨0,Nat.zero_le _,rfl,HL.out⟩
    case round =>
        obtain ⟨k,hk,rfl,hpre⟩:=hrel;have HP:=aa hpre;clear hpre;by_cases hlt:k<L.length
        ·have hcell:=HC.out k hlt
         refine y51 ?_
         intro hD hml
         have hT:Hid (hname (bl s)=(label L[k] && (L.drop (k+1)).all label)):=by rw [Hid,HP.out,hD,List.all_cons]
         have C9:=fun (W:World)=>Ph (mkS L[k]) W (by rw [lq];exact hml);rw [ny] at C9;have HLA:=aa C9;clear C9 hD hml HP
         cases hq:label L[k] with
         | true =>
           rw [hq] at hT HLA;go_wp2_with (go_at_call 225;refine (HLA.out _).mono ?_;rintro e w2 ⟨rfl,rfl⟩)
           go_round
           case rel=>exact ⟨k+1,by omega,by go_num,by rw [hT.out];simp⟩
           case measure => exact z67
         | false =>
           rw [hq] at hT HLA;go_wp2_with (go_at_call 225;refine (HLA.out _).mono ?_;rintro e w2 ⟨rfl,rfl⟩)
           go_ret;exact ⟨aB (by rw [hT.out];rfl),below2 hb0 hbel⟩
        ·exact z110
 ·have HE:Hid (hname (bl s)=false):=by rw [Hid,hdef];simp [h256]
  clear hdef;go_enter func182,ntmps182
  exact z69
/-- an address in brackets has no labels -/
theorem DU (l:Bytes) (h:bracket l=true):labels l=false:=by
 unfold bracket at h;simp only [Bool.and_eq_true,decide_eq_true_eq] at h;obtain ⟨⟨⟨⟨h4,_⟩,h91⟩,_⟩,_⟩:=h;match l,h4 with
 | x :: r,_ =>
   have hx:x.toNat=91:=by simpa using h91
   unfold labels
   cases hs:splitB 46 r with
   | nil=>exact absurd hs (jM _ _)
   | cons a b =>
     have:splitB 46 (x :: r)=(x :: a) :: b:=by rw [splitB,if_neg (by rw [hx];decide),hs]
     rw [this,List.all_cons];have hf:label (x :: a)=false:=by unfold label;simp [mX,hx]
     rw [hf];rfl
theorem Px (l:Bytes):hname l=(decide (l.length<=256) && !four l && labels l):=by
 unfold hname address
 cases hb:bracket l with
 | false=>simp
 | true=>simp [DU l hb]
theorem EM (s:ByteArray) (w:World) (hs:s.size<=1073741824) :
 Calls prog 232 #[.string s] w fun e w'=>e=.returned (.bool (hname (bl s)))/\Below w.heap.size w w':=by
 have hdef:hname (bl s)=(decide (s.size<=256) && !four (bl s) && labels (bl s)):=by rw [Px,aH]
 by_cases h256:s.size<=256
 ·cases ha:four (bl s) with
  | true =>
    have HE:Hid (hname (bl s)=false):=by rw [Hid,hdef,ha];simp
    clear hdef;go_enter func232,ntmps232;go_wp2_with (go_at_call 254;refine (uj s _ hs).mono ?_;rintro e w1 ⟨rfl,hb⟩)
    go_ret;exact ⟨aB HE.out.symm,hb⟩
  | false =>
    obtain ⟨L,hL⟩:∃ L,L=splitB 46 (bl s):=⟨_,rfl⟩;have hsp:=fun (W:World)=>Bo s 46 W hs;have hne:L≠[]:=by rw [hL];exact jM _ _
    have hmem:Hid (∀ p∈L,p.length<=1073741824):=fun p hp=>by
        exact z97
    have HL:Hid (hname (bl s)=L.all label):=by rw [Hid,hdef,ha];unfold labels;rw [<- hL];simp [h256]
    rw [<- hL] at hsp;have hlen:L.length<=1073741825:=by rw [hL];exact uf 46 s hs
    have HS:=aa hsp;clear hsp hL hdef;go_enter func232,ntmps232;go_wp2_with (first
        | (go_at_call 254;refine (uj s _ hs).mono ?_;rintro e w0 ⟨rfl,hb0⟩)
        | (go_at_call 255;refine (HS.out _).mono ?_;rintro e w1 ⟨v,rfl,hown,hbel⟩;obtain ⟨g,cap,rfl,hcells⟩:=nY hown hne;have HC:=aa hcells;clear hcells hown))
    go_loop [4] (fun i=>∃ k:Nat,k<=L.length/\i=.int .i64 k/\hname (bl s)=(L.drop k).all label) (fun i=>L.length - (intOf i).toNat)
    case atStart=>exact ⟨0,Nat.zero_le _,rfl,HL.out⟩
    case round =>
        obtain ⟨k,hk,rfl,hpre⟩:=hrel;have HP:=aa hpre;clear hpre;by_cases hlt:k<L.length
        ·have hcell:=HC.out k hlt
         refine y51 ?_
         intro hD hml
         have hT:Hid (hname (bl s)=(label L[k] && (L.drop (k+1)).all label)):=by rw [Hid,HP.out,hD,List.all_cons]
         have C9:=fun (W:World)=>KJ (mkS L[k]) W (by rw [lq];exact hml);rw [ny] at C9;have HLA:=aa C9;clear C9 hD hml HP
         cases hq:label L[k] with
         | true =>
           rw [hq] at hT HLA;go_wp2_with (go_at_call 256;refine (HLA.out _).mono ?_;rintro e w2 ⟨rfl,rfl⟩)
           go_round
           case rel=>exact ⟨k+1,by omega,by go_num,by rw [hT.out];simp⟩
           case measure => exact z67
         | false =>
           rw [hq] at hT HLA;go_wp2_with (go_at_call 256;refine (HLA.out _).mono ?_;rintro e w2 ⟨rfl,rfl⟩)
           go_ret;exact ⟨aB (by rw [hT.out];rfl),below2 hb0 hbel⟩
        ·exact z110
 ·have HE:Hid (hname (bl s)=false):=by rw [Hid,hdef];simp [h256]
  clear hdef;go_enter func232,ntmps232
  exact z69
def gB (l:Bytes):Bool:=decide (l.length<=256) && (hname l || address l)
def rF (l:Bytes):Int:=if 256<l.length then 3 else if hname (dN l)=true\/address (dN l)=true then 0 else 1
def oQ (l:Bytes):Bytes:=if 256<l.length then [] else if hname (dN l)=true\/address (dN l)=true then dN l else []
theorem Qp (s:ByteArray) (w:World) (hs:s.size<=1073741824) :
 Calls prog 153 #[.string s] w fun e w'=>e=.returned (.tuple #[.string (mkS (oQ (bl s))),.int .i64 (rF (bl s))])/\Below w.heap.size w w':=by
 by_cases h256:s.size<=256
 ·have hlo:=fun (W:World)=>Qk s W hs
  obtain ⟨t,ht⟩:∃ t,t=mkS (dN (bl s)):=⟨_,rfl⟩;have hbt:dN (bl s)=bl t:=by rw [ht,ny]
  have hts:t.size<=1073741824:=by rw [ht,lq];unfold dN;simp [aH];omega
  rw [<- ht] at hlo;have hE:rF (bl s)=if hname (bl t)=true\/address (bl t)=true then 0 else 1:=by unfold rF;rw [aH,if_neg (by omega),hbt]
  have hT:oQ (bl s)=if hname (bl t)=true\/address (bl t)=true then bl t else []:=by unfold oQ;rw [aH,if_neg (by omega),hbt]
  have HL:=aa hlo;clear hlo ht hbt
  cases hn:hname (bl t) with
  | true =>
    rw [hn,if_pos (Or.inl rfl)] at hE hT;have HE:=aa hE;have HT:=aa hT;clear hE hT;go_enter func153,ntmps153;go_wp2_with (first
        | (go_at_call 181;refine (HL.out _).mono ?_;rintro e w1 ⟨rfl,hb1⟩)
        | (go_at_call 182;refine (name_any t _ hts).mono ?_;rintro e w2 ⟨rfl,hb2⟩))
    go_ret2;exact ⟨by rw [HE.out,HT.out,BZ];rfl,below2 hb1 hb2⟩
  | false =>
    cases ha:address (bl t) with
    | true =>
      rw [hn,ha,if_pos (Or.inr rfl)] at hE hT;have HE:=aa hE;have HT:=aa hT;clear hE hT;go_enter func153,ntmps153;go_wp2_with (first
       | (go_at_call 181;refine (HL.out _).mono ?_;rintro e w1 ⟨rfl,hb1⟩)
       | (go_at_call 182;refine (name_any t _ hts).mono ?_;rintro e w2 ⟨rfl,hb2⟩)
       | (go_at_call 183;refine (pM t _ hts).mono ?_;rintro e w3 ⟨rfl,hb3⟩))
      go_ret2;exact ⟨by rw [HE.out,HT.out,BZ];rfl,below2 (below2 hb1 hb2) hb3⟩
    | false =>
      rw [hn,ha] at hE hT;have HE:=aa hE;have HT:=aa hT;clear hE hT;go_enter func153,ntmps153;go_wp2_with (first
       | (go_at_call 181;refine (HL.out _).mono ?_;rintro e w1 ⟨rfl,hb1⟩)
       | (go_at_call 182;refine (name_any t _ hts).mono ?_;rintro e w2 ⟨rfl,hb2⟩)
       | (go_at_call 183;refine (pM t _ hts).mono ?_;rintro e w3 ⟨rfl,hb3⟩))
      go_ret2;exact ⟨by rw [HE.out,HT.out,if_neg (by simp),if_neg (by simp)];rfl,below2 (below2 hb1 hb2) hb3⟩
 ·have HE:Hid (rF (bl s)=3):=by unfold Hid rF;rw [aH,if_pos (by omega)]
  have HT:Hid (oQ (bl s)=[]):=by unfold Hid oQ;rw [aH,if_pos (by omega)]
  go_enter func153,ntmps153;go_wp2;go_ret2;exact ⟨by rw [HE.out,HT.out];rfl,Below.refl _ _⟩
theorem BG (s:ByteArray) (w:World) (hs:s.size<=1073741824) :
 Calls prog 190 #[.string s] w fun e w'=>e=.returned (.bool (gB (bl s)))/\Below w.heap.size w w':=by
 have hd:gB (bl s)=(decide (s.size<=256) && (hname (bl s) || address (bl s))):=by unfold gB;rw [aH]
 by_cases h256:s.size<=256
 ·cases hn:hname (bl s) with
  | true =>
    have HE:Hid (gB (bl s)=true):=by rw [Hid,hd,hn];simp [h256]
    clear hd;go_enter func190,ntmps190;go_wp2_with (go_at_call 232;refine (EM s _ hs).mono ?_;rintro e w1 ⟨rfl,hb1⟩)
    go_ret;exact ⟨aB HE.out.symm,hb1⟩
  | false =>
    have HE:Hid (gB (bl s)=address (bl s)):=by rw [Hid,hd,hn];simp [h256]
    clear hd;go_enter func190,ntmps190;go_wp2_with (first
        | (go_at_call 232;refine (EM s _ hs).mono ?_;rintro e w1 ⟨rfl,hb1⟩)
        | (go_at_call 233;refine (Gp s _ hs).mono ?_;rintro e w2 ⟨rfl,hb2⟩))
    go_ret;exact ⟨aB HE.out.symm,below2 hb1 hb2⟩
 ·have HE:Hid (gB (bl s)=false):=by rw [Hid,hd];simp [h256]
  clear hd;go_enter func190,ntmps190
  exact z69
/-! ### what is gB has no capitals -/
theorem IW {c:UInt8} (h:¬ (65<=c.toNat/\c.toNat<=90)):lowerB c=c:=by unfold lowerB;rw [if_neg h]
theorem qL (c:UInt8):∀ (l:Bytes) (x:UInt8),x∈l->x.toNat=c.toNat\/∃ p∈splitB c l,x∈p
 | [],x,h=>by simp at h
 | y :: r,x,h=>by
   by_cases hy:y.toNat=c.toNat
   ·rcases List.mem_cons.1 h with rfl | h
    ·exact Or.inl hy
    ·rcases qL c r x h with h1 | ⟨p,hp,hx⟩
     ·exact Or.inl h1
     ·exact Or.inr ⟨p,by rw [splitB,if_pos hy];exact List.mem_cons_of_mem _ hp,hx⟩
   ·cases hs:splitB c r with
    | nil=>exact absurd hs (jM c r)
    | cons a b =>
      have e:splitB c (y :: r)=(y :: a) :: b:=by rw [splitB,if_neg hy,hs]
      rw [e];rcases List.mem_cons.1 h with rfl | h
      ·exact Or.inr ⟨x :: a,by simp,by simp⟩
      ·rcases qL c r x h with h1 | ⟨p,hp,hx⟩
       ·exact Or.inl h1
       ·rw [hs] at hp
        rcases List.mem_cons.1 hp with rfl | hp
        ·exact Or.inr ⟨y :: p,by simp,by simp [hx]⟩
        ·exact Or.inr ⟨p,by simp [hp],hx⟩
theorem sG {l:Bytes} (h:∀ x∈l,¬ (65<=x.toNat/\x.toNat<=90)):dN l=l:=by
 unfold dN;have:∀ x∈l,lowerB x=id x:=fun x hx=>IW (h x hx);rw [List.map_congr_left this];simp
theorem sF {l:Bytes} (h:hname l=true):dN l=l:=by
 unfold hname labels at h;simp only [Bool.and_eq_true] at h;refine sG fun x hx=>?_;rcases qL 46 l x hx with h1 | ⟨p,hp,hxp⟩
 ·rw [h1];decide
 ·have hl:=List.all_eq_true.1 h.2 p hp
  unfold label at hl;simp only [Bool.and_eq_true] at hl;have:=List.all_eq_true.1 hl.1.1.2 x hxp;unfold mX at this;simp at this;omega
theorem pW {l:Bytes} (h:address l=true):dN l=l:=by
 unfold address at h;simp only [Bool.or_eq_true] at h;rcases h with h | h
 ·unfold four at h
  simp only [Bool.and_eq_true] at h;refine sG fun x hx=>?_;rcases qL 46 l x hx with h1 | ⟨p,hp,hxp⟩
  ·rw [h1];decide
  ·have hl:=List.all_eq_true.1 h.2 p hp
   unfold ku at hl;simp only [Bool.and_eq_true] at hl;have:=oM (List.all_eq_true.1 hl.1.1.2 x hxp);omega
 ·unfold bracket at h
  simp only [Bool.and_eq_true,decide_eq_true_eq] at h;obtain ⟨⟨⟨⟨h4,_⟩,h91⟩,h93⟩,hm⟩:=h;refine sG fun x hx=>?_;obtain ⟨i,hi,rfl⟩:=List.mem_iff_getElem.1 hx;by_cases h0:i=0
  ·subst h0
   have hh:l.head?=some l[0]:=by rw [List.head?_eq_getElem?];simp
   rw [hh] at h91;have:l[0].toNat=91:=by simpa using h91
   omega
  ·by_cases h1:i=l.length - 1
   ·subst h1
    have hh:l.getLast?=some l[l.length - 1]:=by rw [List.getLast?_eq_getElem?];simp
    rw [hh] at h93;have:l[l.length - 1].toNat=93:=by simpa using h93
    omega
   ·have hb:jG l[i]=true:=by
     refine List.all_eq_true.1 hm _ (List.mem_iff_getElem.2 ⟨i - 1,by simp;omega,?_⟩);rw [List.getElem_take,List.getElem_drop];simp only [show 1+(i - 1)=i by omega]
    unfold jG at hb;simp at hb;omega
theorem PZ (l:Bytes):(decide (rF l=0) && decide (oQ l=l))=gB l:=by
 unfold rF oQ gB;by_cases h:256<l.length
 ·simp [h,show ¬ l.length<=256 by omega]
 ·by_cases hc:hname (dN l)=true\/address (dN l)=true
  ·have e:dN (dN l)=dN l:=by rcases hc with h1 | h1;exact sF h1;exact pW h1
   simp only [if_neg h,if_pos hc,show l.length<=256 by omega,decide_true,Bool.true_and];rw [Bool.eq_iff_iff,decide_eq_true_eq,Bool.or_eq_true];constructor
   ·intro e2;rw [e2] at hc;exact hc
   ·rintro (h1 | h1)
    ·exact sF h1
    ·exact pW h1
  ·have hc2:¬ (hname l=true\/address l=true):=by
        rintro (h1 | h1)
        ·exact hc (Or.inl (by rw [sF h1];exact h1))
        ·exact hc (Or.inr (by rw [pW h1];exact h1))
   simp only [if_neg h,if_neg hc];have h3:hname l=false:=by simpa using fun x=>hc2 (Or.inl x)
   have h4:address l=false:=by simpa using fun x=>hc2 (Or.inr x)
   simp [h3,h4]
end Go.Proofs.YtffobmpeeopadaaGreat
