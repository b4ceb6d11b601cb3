/- Package host and its reference compute the plain functions of Defs. Conditions: texts of at most 2^30 bytes. -/
import Derived.Test.YthphepeniaemoaaGreatRefA
set_option linter.unusedSimpArgs false
set_option linter.unusedVariables false
set_option linter.unnecessarySimpa false
set_option maxHeartbeats 16000000
set_option maxRecDepth 100000
open Go.Proofs.Tryz
namespace Go.Proofs.YthphepeniaemoaaGreat
open Go.RowKit
def qj (c:UInt8) (e:Bool):Bool:=mG c && !(e && isDash c)
theorem vH (c:UInt8) (b:Bool) (w:World):Calls prog 266 #[.int .u8 c.toNat,.bool b] w fun e w'=>e=.returned (.bool (qj c b))/\w=w':=by
 by_cases h45:c.toNat=45
 ·have h1:((c.toNat:Int) == 45)=true:=beq_iff_eq.2 (by omega)
  have HC:=aa h45
  cases b with
  | true =>
    go_enter func266,ntmps266;go_wp2;go_ret;exact ⟨au (by unfold qj isDash;simp [HC.out]),rfl⟩
  | false =>
    go_enter func266,ntmps266;go_wp2;go_ret;exact ⟨au (by unfold qj mG;simp [HC.out]),rfl⟩
 ·have h1:((c.toNat:Int) == 45)=false:=beq_eq_false_iff_ne.2 (by omega)
  have HC:=aa h45;have HD:Hid (isDash c=false):=by unfold Hid isDash;simp [h45]
  clear h45;go_enter func266,ntmps266;go_wp2;all_goals
   go_ret;exact ⟨au (by have h9:=HC.out;unfold qj;rw [HD.out];unfold mG;rw [Bool.eq_iff_iff];simp;(first | omega | (simp only [beq_iff_eq,beq_eq_false_iff_ne,ne_eq,bne_iff_ne,bne_eq_false_iff_eq,decide_eq_true_eq,decide_eq_false_iff_not,Bool.not_eq_eq_eq_not,Bool.not_true,Bool.not_false] at *;omega))),rfl⟩
theorem Eh (c:UInt8) (w:World):Calls prog 291 #[.int .u8 c.toNat] w fun e w'=>e=.returned (.bool (mG c))/\w=w':=by
 go_enter func291,ntmps291;go_wp2;all_goals
  go_ret;exact ⟨au (by unfold mG;rw [Bool.eq_iff_iff];simp;(first | omega | (simp only [beq_iff_eq,beq_eq_false_iff_ne,ne_eq,bne_iff_ne,bne_eq_false_iff_eq,decide_eq_true_eq,decide_eq_false_iff_not,Bool.not_eq_eq_eq_not,Bool.not_true,Bool.not_false] at *;omega))),rfl⟩
/-- what is left of a label's test -/
def jI (l:Bytes) (k:Nat):Bool:=(l.drop k).all mG && (decide (0<k) || !(l.head?.any isDash)) && (decide (k=l.length) || !(l.getLast?.any isDash))
theorem BO (l:Bytes) (k:Nat) (h:k<l.length):jI l k=(qj l[k] (decide (k=0) || decide (k=l.length - 1)) && jI l (k+1)):=by
 unfold jI qj;rw [List.drop_eq_getElem_cons h,List.all_cons];have hh:l.head?=some l[0]:=by rw [List.head?_eq_getElem?];simp
 have hg:l.getLast?=some l[l.length - 1]:=by rw [List.getLast?_eq_getElem?];simp
 rw [hh,hg];simp only [Option.any_some];rw [Bool.eq_iff_iff];by_cases h0:k=0
 ·subst h0
  by_cases h1:l.length - 1=0
  ·have e1:l.length=1:=by omega
   simp only [e1];simp [e1];intros;grind
  ·have e1:¬ (0=l.length - 1):=by omega
   have e2:¬ (0=l.length):=by omega
   have e3:¬ (0+1=l.length):=by omega
   simp [e1,e2,e3];grind
 ·by_cases h1:k=l.length - 1
  ·subst h1
   have e2:¬ (l.length - 1=l.length):=by omega
   have e3:l.length - 1+1=l.length:=by omega
   simp [h0,e2,e3];grind
  ·have e2:¬ (k=l.length):=by omega
   have e3:¬ (k+1=l.length):=by omega
   simp [h0,h1,e2,e3];grind
theorem Qv (l:Bytes) (h1:1<=l.length) (h2:l.length<=63):label l=jI l 0:=by
 unfold label jI;have e:¬ (0=l.length):=by omega
 simp [h1,h2,e]
theorem DV (l:Bytes) (h:0<l.length):jI l l.length=true:=by
 unfold jI;simp [h]
theorem Rq (s:ByteArray) (k:Nat) (h:k<s.size):(bl s)[k]'(by rw [aB];exact h)=s[k]:=rfl
theorem z49 {p : Prop} (h : p := by
 go_wp2
 go_ret
 exact ⟨au HE.out.symm, rfl⟩) : p := h
theorem z42 {p : Prop} (h : p := by
 rw [HK.out] at HS
 cases hq : qj s[k] true with
 | true =>
   rw [hq] at HS
   go_wp2_with (go_at_call 266; refine (vH _ true _).mono ?_; rintro e w1 ⟨rfl, rfl⟩)
   go_round
   case rel => exact ⟨k + 1, by omega, by go_num, by rw [HS.out]; simp⟩
   case measure => exact z69
 | false =>
   rw [hq] at HS
   go_wp2_with (go_at_call 266; refine (vH _ true _).mono ?_; rintro e w1 ⟨rfl, rfl⟩)
   go_ret
   exact ⟨au (by rw [HS.out]; simp), rfl⟩) : p := h
theorem OH (s:ByteArray) (w:World) (hs:s.size<=1073741824) :
 Calls prog 239 #[.string s] w fun e w'=>e=.returned (.bool (label (bl s)))/\w=w':=by
 by_cases h0:0<s.size
 ·have he:=mr h0
  have he':=lI h0;by_cases h63:s.size<=63
  ·have HL:=aa (Qv (bl s) (by rw [aB];omega) (by rw [aB];omega))
   go_enter func239,ntmps239;go_wp2;go_loop [3,13] (fun _ i=>∃ k:Nat,k<=s.size/\i=.int .i64 k/\label (bl s)=jI (bl s) k) (fun _ i=>s.size - (intOf i).toNat)
   case atStart=>exact ⟨0,Nat.zero_le _,rfl,HL.out⟩
   case round =>
        obtain ⟨k,hk,rfl,hpre⟩:=hrel;by_cases hlt:k<s.size
        ·have hst:=BO (bl s) k hlt
         rw [Rq s k hlt,aB] at hst;have HS:Hid (label (bl s)=(qj s[k] (decide (k=0) || decide (k=s.size - 1)) && jI (bl s) (k+1))):=by rw [Hid,hpre,hst]
         clear hst hpre;by_cases hk0:k=0
         ·have e0:((k:Int) == 0)=true:=beq_iff_eq.2 (by omega)
          have HK:Hid ((decide (k=0) || decide (k=s.size - 1))=true):=by simp [Hid,hk0]
          have hk0':k<1:=by omega
          clear hk0
          exact z42
         ·have e0:((k:Int) == 0)=false:=beq_eq_false_iff_ne.2 (by omega)
          by_cases hk1:k=s.size - 1
          ·have e1:((k:Int) == (s.size:Int) - 1)=true:=beq_iff_eq.2 (by omega)
           have HK:Hid ((decide (k=0) || decide (k=s.size - 1))=true):=by simp [Hid,hk1]
           clear hk0 hk1
           exact z42
          ·have e1:((k:Int) == (s.size:Int) - 1)=false:=beq_eq_false_iff_ne.2 (by omega)
           have HK:Hid ((decide (k=0) || decide (k=s.size - 1))=false):=by simp [Hid,hk0,hk1]
           clear hk0 hk1;rw [HK.out] at HS
           cases hq:qj s[k] false with
           | true =>
             rw [hq] at HS;go_wp2_with (go_at_call 266;refine (vH _ false _).mono ?_;rintro e w1 ⟨rfl,rfl⟩)
             go_round
             case rel=>exact ⟨k+1,by omega,by go_num,by rw [HS.out];simp⟩
             case measure => exact z69
           | false =>
             rw [hq] at HS;go_wp2_with (go_at_call 266;refine (vH _ false _).mono ?_;rintro e w1 ⟨rfl,rfl⟩)
             go_ret;exact ⟨au (by rw [HS.out];simp),rfl⟩
        ·have HE:Hid (label (bl s)=true):=by
          have:k=(bl s).length:=by rw [aB];omega
          rw [Hid,hpre,this];exact DV _ (by rw [aB];exact h0)
         clear hpre
         exact z49
  ·have HE:Hid (label (bl s)=false):=by
        unfold Hid label;rw [aB];simp [show ¬ s.size<=63 from h63]
   go_enter func239,ntmps239
   exact z49
 ·obtain rfl:s=ByteArray.empty:=kY (uY h0)
  have HE:Hid (label (bl ByteArray.empty)=false):=rfl;go_enter func239,ntmps239
  exact z49
theorem tq (s:ByteArray) (h:0<s.size):(bl s).head?=some s[0]:=by rw [List.head?_eq_getElem?,List.getElem?_eq_getElem (by rw [aB];exact h)];rfl
theorem F9 (s:ByteArray) (h:0<s.size):(bl s).getLast?=some (s[s.size - 1]'(by omega)):=by
 rw [List.getLast?_eq_getElem?,List.getElem?_eq_getElem (by rw [aB];omega)];rfl
theorem z150 {p : Prop} (h : p := by
 go_enter func271, ntmps271
 exact z49) : p := h
theorem z123 {p : Prop} (h : p := by
 go_wp2
 go_ret
 exact ⟨au (by rw [HP.out, HD.out]; rfl), rfl⟩) : p := h
theorem J4 (s:ByteArray) (w:World) (hs:s.size<=1073741824) :
 Calls prog 271 #[.string s] w fun e w'=>e=.returned (.bool (label (bl s)))/\w=w':=by
 by_cases h0:0<s.size
 ·by_cases h63:s.size<=63
  ·have hh:=tq s h0
   have hg:=F9 s h0;by_cases ha:s[0].toNat=45
   ·have HE:Hid (label (bl s)=false):=by unfold Hid label;rw [hh];simp [isDash,ha]
    have e1:((s[0].toNat:Int) == 45)=true:=beq_iff_eq.2 (by omega);clear hh hg ha
    exact z150
   ·have e1:((s[0].toNat:Int) == 45)=false:=beq_eq_false_iff_ne.2 (by omega)
    by_cases hb:s[s.size - 1].toNat=45
    ·have HE:Hid (label (bl s)=false):=by unfold Hid label;rw [hg];simp [isDash,hb]
     have e2:((s[s.size - 1].toNat:Int) == 45)=true:=beq_iff_eq.2 (by omega);clear hh hg ha hb
     exact z150
    ·have e2:((s[s.size - 1].toNat:Int) == 45)=false:=beq_eq_false_iff_ne.2 (by omega)
     have HL:Hid (label (bl s)=(bl s).all mG):=by
      unfold Hid label;rw [hh,hg,aB];simp [isDash,ha,hb,h63,show 1<=s.size from h0]
     clear hh hg ha hb;go_enter func271,ntmps271;go_wp2;go_loop [3] (fun i=>∃ k:Nat,k<=s.size/\i=.int .i64 k/\label (bl s)=((bl s).drop k).all mG) (fun i=>s.size - (intOf i).toNat)
     case atStart=>exact ⟨0,Nat.zero_le _,rfl,HL.out⟩
     case round =>
      obtain ⟨k,hk,rfl,hpre⟩:=hrel;have HP:=aa hpre;clear hpre;by_cases hlt:k<s.size
      ·have HD:=aa (drop_cons s k hlt)
       cases hq:mG s[k] with
       | true =>
         go_wp2_with (go_at_call 291;refine (Eh _ _).mono ?_;rintro e w1 ⟨rfl,rfl⟩)
         go_round
         case rel=>exact ⟨k+1,by omega,by go_num,by rw [HP.out,HD.out];simp [hq]⟩
         case measure => exact z69
       | false =>
         go_wp2_with (go_at_call 291;refine (Eh _ _).mono ?_;rintro e w1 ⟨rfl,rfl⟩)
         go_ret;exact ⟨au (by rw [HP.out,HD.out];simp [hq]),rfl⟩
      ·have HD:=aa (jd s k hlt)
       exact z123
  ·have HE:Hid (label (bl s)=false):=by
        unfold Hid label;rw [aB];simp [show ¬ s.size<=63 from h63]
   exact z150
 ·obtain rfl:s=ByteArray.empty:=kY (uY h0)
  have HE:Hid (label (bl ByteArray.empty)=false):=rfl
  exact z150
/-- the middle of an address in brackets -/
theorem zA (s:ByteArray) (h4:4<=s.size):((bl s).drop 1).take ((bl s).length - 2)=bl (s.extract 1 (s.size - 1)):=by
 rw [gy,aB,List.drop_take];congr 1
theorem z60 {p : Prop} (h : p := by
 go_wp2
 go_ret
 exact ⟨au HE.out.symm, bb _ _⟩) : p := h
theorem z151 {p : Prop} (h : p := by
 go_enter func241, ntmps241
 exact z60) : p := h
theorem Jq (s:ByteArray) (w:World) (hs:s.size<=1073741824) :
 Calls prog 241 #[.string s] w fun e w'=>e=.returned (.bool (bracket (bl s)))/\Below w.heap.size w w':=by
 by_cases h4:4<=s.size
 ·by_cases h47:s.size<=47
  ·have h0:0<s.size:=by omega
   have hh:=tq s h0;have hg:=F9 s h0;by_cases ha:s[0].toNat=91
   ·have e1:((s[0].toNat:Int) != 91)=false:=by rw [bne_eq_false_iff_eq];omega
    by_cases hb:s[s.size - 1].toNat=93
    ·have e2:((s[s.size - 1].toNat:Int) != 93)=false:=by rw [bne_eq_false_iff_eq];omega
     have HM:Hid (bracket (bl s)=(bl (s.extract 1 (s.size - 1))).all jy):=by
      unfold Hid bracket;rw [zA s h4,hh,hg,aB];simp [ha,hb,h4,h47]
     obtain ⟨cap,w1,hconv,hb1,hz1,hcap,hby,hfr⟩:=Jd (P:=prog) 9 54 5 underlying9 underlying54 underlying5 w (s.extract 1 (s.size - 1));have hts:Hid ((s.extract 1 (s.size - 1)).size=s.size - 1 - 1):=by unfold Hid;simp <;> omega
     have hsx:(1:Int)<=(s.size:Int) - 1:=by omega
     have hsy:(s.size:Int) - 1<=(s.size:Int):=by omega
     have hsz:(0:Int)<=(s.size:Int) - 1:=by omega
     have hsw:((s.size:Int) - 1).toNat=s.size - 1:=by omega
     clear hh hg ha hb hfr hz1;go_enter func241,ntmps241;go_wp2;clear hconv;generalize s.extract 1 (s.size - 1)=t at *;go_loop [4,33] (fun _ i=>∃ k:Nat,k<=s.size - 1 - 1/\i=.int .i64 k/\bracket (bl s)=((bl t).drop k).all jy) (fun _ i=>s.size - (intOf i).toNat)
     case atStart=>exact ⟨0,Nat.zero_le _,rfl,HM.out⟩
     case round =>
      obtain ⟨k,hk,rfl,hpre⟩:=hrel;have HP:=aa hpre;clear hpre;by_cases hlt':k<s.size - 1 - 1
      ·have hlt:k<t.size:=by rw [hts.out];exact hlt'
       have HD:=aa (drop_cons t k hlt);have hck:=hby k hlt;rw [Rq t k hlt,av] at hck;have HY:Hid (jy t[k]=true->bracket (bl s)=((bl t).drop (k+1)).all jy):=fun h=>by rw [HP.out,HD.out];simp [h]
       have HN:Hid (jy t[k]=false->bracket (bl s)=false):=fun h=>by rw [HP.out,HD.out];simp [h]
       clear HP HD;generalize t[k]=c at *;clear hby;go_wp2;all_goals first
            | (go_ret;exact ⟨au (HN.out (by unfold jy;rw [Bool.eq_iff_iff];simp;(first | omega | (simp only [beq_iff_eq,beq_eq_false_iff_ne,ne_eq,bne_iff_ne,bne_eq_false_iff_eq,decide_eq_true_eq,decide_eq_false_iff_not,Bool.not_eq_eq_eq_not,Bool.not_true,Bool.not_false] at *;omega)))).symm,hb1⟩)
            | (go_round
               case rel=>exact ⟨k+1,by omega,by go_num,HY.out (by unfold jy;simp;(first | omega | (simp only [beq_iff_eq,beq_eq_false_iff_ne,ne_eq,bne_iff_ne,bne_eq_false_iff_eq,decide_eq_true_eq,decide_eq_false_iff_not,Bool.not_eq_eq_eq_not,Bool.not_true,Bool.not_false] at *;omega)))⟩
               case measure=>simp [intOf] <;> omega)
      ·have HD:=aa (jd t k (by rw [hts.out];exact hlt'))
       go_wp2;go_ret;exact ⟨au (by rw [HP.out,HD.out];rfl),hb1⟩
    ·have e2:((s[s.size - 1].toNat:Int) != 93)=true:=by rw [bne_iff_ne];omega
     have HE:Hid (bracket (bl s)=false):=by unfold Hid bracket;rw [hg];simp [hb]
     clear hh hg hb ha
     exact z151
   ·have e1:((s[0].toNat:Int) != 91)=true:=by rw [bne_iff_ne];omega
    have HE:Hid (bracket (bl s)=false):=by unfold Hid bracket;rw [hh];simp [ha]
    clear hh hg ha
    exact z151
  ·have HE:Hid (bracket (bl s)=false):=by unfold Hid bracket;rw [aB];simp [show ¬ s.size<=47 from h47]
   exact z151
 ·have HE:Hid (bracket (bl s)=false):=by unfold Hid bracket;rw [aB];simp [show ¬ 4<=s.size from h4]
  exact z151
theorem z152 {p : Prop} (h : p := by
 go_enter func272, ntmps272
 exact z49) : p := h
theorem FN (s:ByteArray) (w:World) (hs:s.size<=1073741824) :
 Calls prog 272 #[.string s] w fun e w'=>e=.returned (.bool (bracket (bl s)))/\w=w':=by
 by_cases h4:4<=s.size
 ·by_cases h47:s.size<=47
  ·have h0:0<s.size:=by omega
   have hh:=tq s h0;have hg:=F9 s h0;by_cases ha:s[0].toNat=91
   ·have e1:((s[0].toNat:Int) != 91)=false:=by rw [bne_eq_false_iff_eq];omega
    by_cases hb:s[s.size - 1].toNat=93
    ·have e2:((s[s.size - 1].toNat:Int) != 93)=false:=by rw [bne_eq_false_iff_eq];omega
     have HM:Hid (bracket (bl s)=(((bl s).take (s.size - 1)).drop 1).all jy):=by
      unfold Hid bracket;rw [zA s h4,hh,hg,aB,gy];simp [ha,hb,h4,h47]
     clear hh hg ha hb;go_enter func272,ntmps272;go_wp2;go_loop [3,4] (fun i _=>∃ k:Nat,1<=k/\k<=s.size - 1/\i=.int .i64 k/\bracket (bl s)=(((bl s).take (s.size - 1)).drop k).all jy) (fun i _=>s.size - (intOf i).toNat)
     case atStart=>exact ⟨1,aq _,by omega,rfl,HM.out⟩
     case round =>
      obtain ⟨k,hk1,hk,rfl,hpre⟩:=hrel;have HP:=aa hpre;clear hpre;by_cases hlt:k<s.size - 1
      ·have hlt2:k<s.size:=by omega
       have HD:Hid (((bl s).take (s.size - 1)).drop k=s[k] :: ((bl s).take (s.size - 1)).drop (k+1)):=by
            rw [Hid,List.drop_eq_getElem_cons (by simp [aB];omega),List.getElem_take];rfl
       have HY:Hid (jy s[k]=true->bracket (bl s)=(((bl s).take (s.size - 1)).drop (k+1)).all jy):=fun h=>by rw [HP.out,HD.out];simp [h]
       have HN:Hid (jy s[k]=false->bracket (bl s)=false):=fun h=>by rw [HP.out,HD.out];simp [h]
       clear HP HD;go_wp2;all_goals first
            | (go_ret;exact ⟨au (HN.out (by unfold jy;rw [Bool.eq_iff_iff];simp;(first | omega | (simp only [beq_iff_eq,beq_eq_false_iff_ne,ne_eq,bne_iff_ne,bne_eq_false_iff_eq,decide_eq_true_eq,decide_eq_false_iff_not,Bool.not_eq_eq_eq_not,Bool.not_true,Bool.not_false] at *;omega)))).symm,rfl⟩)
            | (go_round
               case rel=>exact ⟨k+1,by omega,by omega,by go_num,HY.out (by unfold jy;simp;(first | omega | (simp only [beq_iff_eq,beq_eq_false_iff_ne,ne_eq,bne_iff_ne,bne_eq_false_iff_eq,decide_eq_true_eq,decide_eq_false_iff_not,Bool.not_eq_eq_eq_not,Bool.not_true,Bool.not_false] at *;omega)))⟩
               case measure=>simp [intOf] <;> omega)
      ·have HD:Hid (((bl s).take (s.size - 1)).drop k=[]):=by rw [Hid,List.drop_eq_nil_iff];simp [aB];omega
       have hge:(s.size:Int) - 1<=(k:Int):=by omega
       exact z123
    ·have e2:((s[s.size - 1].toNat:Int) != 93)=true:=by rw [bne_iff_ne];omega
     have HE:Hid (bracket (bl s)=false):=by unfold Hid bracket;rw [hg];simp [hb]
     clear hh hg hb ha
     exact z152
   ·have e1:((s[0].toNat:Int) != 91)=true:=by rw [bne_iff_ne];omega
    have HE:Hid (bracket (bl s)=false):=by unfold Hid bracket;rw [hh];simp [ha]
    clear hh hg ha
    exact z152
  ·have HE:Hid (bracket (bl s)=false):=by unfold Hid bracket;rw [aB];simp [show ¬ s.size<=47 from h47]
   exact z152
 ·have HE:Hid (bracket (bl s)=false):=by unfold Hid bracket;rw [aB];simp [show ¬ 4<=s.size from h4]
  exact z152
/-- a slice of strings that the callee made, read -/
theorem nK {w:World} {base:Nat} {E:TypeId} {v:Value} {L:List Bytes} (h:w.ownsRow base E 1 v L.length (ni L)) (hne:L≠[]) :
 ∃ g cap,v=.slice (some ⟨g,0,none⟩) L.length cap/\∀ j (hj:j<L.length),w.cell? ⟨g,j,none⟩=some (.string (mkS L[j])):=by
 have hc:=fun g (hg:v.ownBlock=some g)=>h.cells hg;rcases h.2 with ⟨rfl,hn⟩ | ⟨g,cap,cur,rfl,rest⟩
 ·exact absurd (List.length_eq_zero_iff.1 hn) hne
 ·refine ⟨g,cap,rfl,fun j hj=>?_⟩
  have:=hc g rfl j (.string (mkS L[j])) (by simp [ni,hj]);unfold Addr.add at this;split at this
  ·rename_i h0;subst h0;exact this
  ·simpa using this
theorem sU (c:UInt8) (s:ByteArray) (hs:s.size<=1073741824):(splitB c (bl s)).length<=1073741825:=by
 have:=ui c (bl s);rw [aB] at this;omega
theorem kM (c:UInt8):∀ (l:Bytes) (p:Bytes),p∈splitB c l->p.length<=l.length
 | [],p,h=>by simp [splitB] at h;subst h;simp
 | x :: r,p,h=>by
   unfold splitB at h;split at h
   ·rcases List.mem_cons.1 h with rfl | h
    ·simp
    ·have:=kM c r p h;simp;omega
   ·cases hs:splitB c r with
    | nil=>exact absurd hs (jF c r)
    | cons a b =>
      rw [hs] at h;rcases List.mem_cons.1 h with rfl | h
      ·have:=kM c r a (by rw [hs];simp);simp;omega
      ·have:=kM c r p (by rw [hs];simp [h]);simp;omega
/-- what decides on a number of an address -/
theorem Qn (t:ByteArray):jS (bl t)=(decide (0<t.size) && ((bl t).all isDigit && (decide (kw (bl t)<=255) && (decide (t.size<=1) || !((bl t).head?.any fun c=>decide (c.toNat=48)))))):=by
 unfold jS;rw [aB];simp [Nat.succ_le_iff,Bool.and_assoc]
theorem z54 {p : Prop} (h : p := by
 generalize number (bl t) = nv at mW
 have hnum := aa mW
 have hdig := aa wO
 clear mW wO hT
 go_wp2_with (first | (go_at_call 267; refine (hnum.out _).mono ?_; rintro e w2 ⟨rfl, rfl⟩) | (go_at_call 268; refine (hdig.out _).mono ?_; rintro e w2 ⟨rfl, rfl⟩))
 go_round
 case rel => exact ⟨k + 1, by omega, by go_num, HE.out⟩
 case measure => simp [intOf] <;> omega) : p := h
theorem z30 {p : Prop} (h : p := by
 generalize number (bl t) = nv at mW
 have hnum := aa mW
 have hdig := aa wO
 clear mW wO hT
 go_wp2_with (first | (go_at_call 267; refine (hnum.out _).mono ?_; rintro e w2 ⟨rfl, rfl⟩) | (go_at_call 268; refine (hdig.out _).mono ?_; rintro e w2 ⟨rfl, rfl⟩))
 go_ret
 exact ⟨au HE.out.symm, hbel⟩) : p := h
theorem z95 {p : Prop} (h : p := by have := kM 46 (bl s) p (by rw [<- hL]; exact hp); rw [aB] at this; omega) : p := h
theorem z153 {p : Prop} (h : p := by
 go_ret
 exact ⟨au HE.out.symm, hbel⟩) : p := h
theorem y47 {p q : Prop} (k : q) (h : PLift q -> p := by
 intro kk
 have hD : L.drop k = L[k] :: L.drop (k + 1) := List.drop_eq_getElem_cons hlt
 have hml := hmem.out L[k] (List.getElem_mem hlt)
 revert hD hml
 exact kk.down) : p := h ⟨k⟩
theorem IU (s:ByteArray) (w:World) (hs:s.size<=1073741824) :
 Calls prog 240 #[.string s] w fun e w'=>e=.returned (.bool (four (bl s)))/\Below w.heap.size w w':=by
 obtain ⟨L,hL⟩:∃ L,L=splitB 46 (bl s):=⟨_,rfl⟩;have hsp:=fun (W:World)=>Fa s 46 W hs;have hne:L≠[]:=by rw [hL];exact jF _ _
 have hmem:Hid (∀ p∈L,p.length<=1073741824):=fun p hp=>by
  exact z95
 have IG:Hid (four (bl s)=(decide (L.length=4) && L.all jS)):=by unfold Hid four;rw [hL]
 rw [<- hL] at hsp;have hlen:L.length<=1073741825:=by rw [hL];exact sU 46 s hs
 have HS:=aa hsp;clear hsp hL;by_cases h4:L.length=4
 ·have e4:((L.length:Int) != 4)=false:=by rw [bne_eq_false_iff_eq];omega
  have H4:=aa h4;have hlt4:L.length<=4:=by omega
  clear h4;go_enter func240,ntmps240;go_wp2_with (go_at_call 238;refine (HS.out _).mono ?_;rintro e w1 ⟨v,rfl,hown,hbel⟩;obtain ⟨g,cap,rfl,hcells⟩:=nK hown hne;have HC:=aa hcells;clear hcells hown)
  go_loop [5,6,7,15,19] (fun _ _ _ i _=>∃ k:Nat,k<=L.length/\i=.int .i64 k/\four (bl s)=(L.drop k).all jS) (fun _ _ _ i _=>L.length - (intOf i).toNat)
  case atStart=>exact ⟨0,Nat.zero_le _,rfl,by rw [IG.out,H4.out];simp⟩
  case round =>
   obtain ⟨k,hk,rfl,hpre⟩:=hrel;have HP:=aa hpre;clear hpre;by_cases hlt:k<L.length
   ·have hcell:=HC.out k hlt
    refine y47 ?_
    intro hD hml
    have hO:=Qn (mkS L[k]);rw [mO] at hO;have hT:Hid (four (bl s)=(jS L[k] && (L.drop (k+1)).all jS)):=by rw [Hid,HP.out,hD,List.all_cons]
    rw [hO] at hT;obtain ⟨t,ht⟩:∃ t,t=mkS L[k]:=⟨_,rfl⟩;rw [<- ht] at hcell hT;have hbt:L[k]=bl t:=by rw [ht,mO]
    rw [hbt] at hT;have hts:t.size<=1073741824:=by rw [ht,lV];exact hml
    clear HP hO ht hbt hml hD;have mW:=fun (W:World)=>L8 t W hts;have wO:=fun (W:World)=>vg t W (by unfold maxLen;omega);have hdl:=pW (bl t);rw [aB] at hdl;by_cases h0:0<t.size
    ·have hse:=mr h0
     have hse':=lI h0;have hhd:=tq t h0;by_cases hall:(bl t).all isDigit=true
     ·have hnl:¬ digits (bl t)<t.size:=fun h=>(eH (bl t)).1 (by rw [aB];exact h) hall
      have QL:¬ (0<t.size/\∀ h:0<t.size,t[0].toNat=45):=fun ⟨_,h⟩=>by
            have h9:=uK hall h0;have:=h h0;simp [isDigit,this] at h9
      have hnv:=qx t QL;rw [if_pos ⟨h0,hall⟩] at hnv;rw [hnv] at mW;simp only at mW;have hnb:=wC (bl t) hall;by_cases h255:kw (bl t)<=255
      ·by_cases h1:t.size<=1
       ·have HE:Hid (four (bl s)=(L.drop (k+1)).all jS):=by rw [Hid,hT];simp [h0,hall,h255,h1]
        exact z54
       ·by_cases h48:t[0].toNat=48
        ·have HE:Hid (four (bl s)=false):=by rw [Hid,hT,hhd];simp [h1,h48]
         have e48:((t[0].toNat:Int) == 48)=true:=beq_iff_eq.2 (by omega)
         exact z30
        ·have HE:Hid (four (bl s)=(L.drop (k+1)).all jS):=by rw [Hid,hT,hhd];simp [h0,hall,h255,h48]
         have e48:((t[0].toNat:Int) == 48)=false:=beq_eq_false_iff_ne.2 (by omega)
         exact z54
      ·have HE:Hid (four (bl s)=false):=by rw [Hid,hT];simp [h255]
       exact z30
     ·have hnl:digits (bl t)<t.size:=by have:=(eH (bl t)).2 hall;rwa [aB] at this
      have HE:Hid (four (bl s)=false):=by rw [Hid,hT];simp [hall]
      exact z30
    ·have hse:=lH h0
     have hse':=nO h0;have HE:Hid (four (bl s)=false):=by rw [Hid,hT];simp [h0]
     exact z30
   ·have HE:Hid (four (bl s)=true):=by rw [Hid,HP.out,List.drop_eq_nil_of_le (by omega)];rfl
    go_wp2
    exact z153
 ·have e4:((L.length:Int) != 4)=true:=by rw [bne_iff_ne];omega
  have HE:Hid (four (bl s)=false):=by rw [Hid,IG.out];simp [h4]
  clear h4;go_enter func240,ntmps240;go_wp2_with (go_at_call 238;refine (HS.out _).mono ?_;rintro e w1 ⟨v,rfl,hown,hbel⟩;obtain ⟨g,cap,rfl,hcells⟩:=nK hown hne;have HC:=aa hcells;clear hcells hown)
  exact z153
/-- what the reference asks of a number of an address -/
def mF (p:Bytes):Bool:=decide (1<=p.length) && decide (p.length<=3) && p.all isDigit && decide (kw p<=255) && decide (kF (kw p).toNat=p)
theorem IV:∀ (l:Bytes) (n:Int),0<=n->n<=1099511627776->l.all isDigit=true->n<=l.foldl dP n
 | [],_,_,_,_=>Int.le_refl _
 | c :: r,n,h0,h1,hl=>by
   simp only [List.all_cons,Bool.and_eq_true] at hl;have h2:=qy h0 hl.1;have h3:=IV r (dP n c) h2.1 h2.2 hl.2;have hd:=hl.1;unfold isDigit at hd;simp at hd;have h4:n<=dP n c:=by unfold dP;omega
   exact Int.le_trans h4 h3
theorem nY {c:UInt8} (h:isDigit c=true):48<=c.toNat/\c.toNat<=57:=by simpa [isDigit] using h
theorem nS (n:Nat) (c:UInt8) (h:n=c.toNat):UInt8.ofNat n=c:=by
 apply UInt8.toNat_inj.1;rw [h];simp
theorem Ou (p:Bytes):jS p=mF p:=by
 match p with
 | []=>rfl
 | [a] =>
   unfold jS mF;by_cases ha:isDigit a=true
   ·have h:=nY ha
    have hn:kw [a]=((a.toNat - 48:Nat):Int):=by simp [kw,dP];omega
    have ht:kF (a.toNat - 48)=[a]:=by rw [iR _ (by omega),nS _ a (by omega)]
    rw [hn];simp [ha,ht]; 
   ·simp [ha]
 | [a,b] =>
   unfold jS mF;by_cases ha:isDigit a=true
   ·by_cases hb:isDigit b=true
    ·have h1:=nY ha
     have h2:=nY hb;have hn:kw [a,b]=(((a.toNat - 48) * 10+(b.toNat - 48):Nat):Int):=by simp [kw,dP];omega
     rw [hn];by_cases h0:a.toNat=48
     ·have ht:kF ((a.toNat - 48) * 10+(b.toNat - 48))=[b]:=by rw [h0];simp;rw [iR _ (by omega),nS _ b (by omega)]
      simp [ha,hb,h0];rw [h0] at ht;simp at ht;rw [ht];simp
     ·have ht:kF ((a.toNat - 48) * 10+(b.toNat - 48))=[a,b]:=by
       rw [nJ _ (by omega),iR _ (by omega),nS _ a (by omega),nS _ b (by omega)];rfl
      rw [Int.toNat_natCast,ht];simp [ha,hb,h0]
    ·simp [ha,hb]
   ·simp [ha]
 | [a,b,c] =>
   unfold jS mF;by_cases ha:isDigit a=true
   ·by_cases hb:isDigit b=true
    ·by_cases hc:isDigit c=true
     ·have h1:=nY ha
      have h2:=nY hb;have h3:=nY hc;have hn:kw [a,b,c]=(((a.toNat - 48) * 100+(b.toNat - 48) * 10+(c.toNat - 48):Nat):Int):=by simp [kw,dP];omega
      rw [hn];by_cases h0:a.toNat=48
      ·have ht:kF ((a.toNat - 48) * 100+(b.toNat - 48) * 10+(c.toNat - 48))≠[a,b,c]:=by
             intro h;have hl:=congrArg List.length h;by_cases hs:(a.toNat - 48) * 100+(b.toNat - 48) * 10+(c.toNat - 48)<10
             ·rw [iR _ hs] at hl;simp at hl
             ·rw [nJ _ hs,iR _ (by omega)] at hl;simp at hl
       simp [ha,hb,hc,h0] at ht ⊢;intro _;exact ht
      ·have ht:kF ((a.toNat - 48) * 100+(b.toNat - 48) * 10+(c.toNat - 48))=[a,b,c]:=by
             rw [nJ _ (by omega),nJ _ (by omega),iR _ (by omega),nS _ a (by omega),nS _ b (by omega),nS _ c (by omega)];rfl
       rw [Int.toNat_natCast,ht];simp [ha,hb,hc,h0]
     ·simp [ha,hb,hc]
    ·simp [ha,hb]
   ·simp [ha]
 | a :: b :: c :: d :: r =>
   have e2:mF (a :: b :: c :: d :: r)=false:=by unfold mF;simp
   rw [e2];by_cases hall:(a :: b :: c :: d :: r).all isDigit=true
   ·by_cases h0:a.toNat=48
    ·unfold jS;simp [h0]
    ·have hx:=hall
     simp only [List.all_cons,Bool.and_eq_true] at hx;obtain ⟨ha,hb,hc,hd,hr⟩:=hx;have h1:=nY ha;have h2:=nY hb;have h3:=nY hc;have h4:=nY hd;have hs:[a,b,c,d].foldl dP 0=(((a.toNat - 48) * 1000+(b.toNat - 48) * 100+(c.toNat - 48) * 10+(d.toNat - 48):Nat):Int):=by simp [dP];omega
     have hg:=IV r ([a,b,c,d].foldl dP 0) (by rw [hs];omega) (by rw [hs];omega) hr;have hn:¬ kw (a :: b :: c :: d :: r)<=255:=by
      have:kw (a :: b :: c :: d :: r)=r.foldl dP ([a,b,c,d].foldl dP 0):=rfl;rw [this,hs];rw [hs] at hg;omega
     unfold jS;simp [hn]
   ·unfold jS;simp only [hall];simp
theorem quiet_of_same' {P:Program} {f:FuncId} {args:Array Value} {w:World} {n:Nat} {v:Value}
 (h:Calls P f args (w.drewN n) fun e w'=>e=.returned v/\w.drewN n=w'):Calls P f args (w.drewN n) fun e w''=>e=.returned v/\∃ m,w''=w.drewN m :=
 h.mono fun _ _ ⟨he,hm⟩=>⟨he,n,hm.symm⟩
theorem z44 {p : Prop} (h : p := by
 generalize number (bl t) = nv at mW
 have hnum := aa mW
 have hdig := aa wO
 clear mW wO hT
 go_wp2
 go_quiet ((first | (with_reducible exact quiet_of_same' (hdig.out _))))
 go_wp2
 go_ret
 exact ⟨au HE.out.symm, hbt.trans (below_drewN' _)⟩) : p := h
theorem sZ (s:ByteArray) (w:World) (hs:s.size<=1073741824) :
 Calls prog 269 #[.string s] w fun e w'=>e=.returned (.bool (four (bl s)))/\Below w.heap.size w w':=by
 obtain ⟨L,hL⟩:∃ L,L=splitB 46 (bl s):=⟨_,rfl⟩;have hsp:=fun (W:World)=>AV s 46 W hs;have hne:L≠[]:=by rw [hL];exact jF _ _
 have hmem:Hid (∀ p∈L,p.length<=1073741824):=fun p hp=>by
  exact z95
 have IG:Hid (four (bl s)=(decide (L.length=4) && L.all jS)):=by unfold Hid four;rw [hL]
 rw [<- hL] at hsp;have hlen:L.length<=1073741825:=by rw [hL];exact sU 46 s hs
 have HS:=aa hsp;clear hsp hL;by_cases h4:L.length=4
 ·have e4:((L.length:Int) != 4)=false:=by rw [bne_eq_false_iff_eq];omega
  have H4:=aa h4;have hlt4:L.length<=4:=by omega
  have hge4:4<=L.length:=by omega
  clear h4;go_enter func269,ntmps269;go_wp2_with (go_at_call 270;refine (HS.out _).mono ?_;rintro e w1 ⟨v,rfl,hown,hbel⟩;obtain ⟨g,cap,rfl,hcells⟩:=nK hown hne;have HC:=aa hcells;clear hcells hown)
  go_loopw [4,5,6] (fun i _ _ wr=>∃ k:Nat,k<=L.length/\i=.int .i64 k/\four (bl s)=(L.drop k).all jS/\Below w1.heap.size w1 wr) (fun i _ _ _=>L.length - (intOf i).toNat)
  case atStart=>exact ⟨0,Nat.zero_le _,rfl,by rw [IG.out,H4.out];simp,bb _ _⟩
  case round =>
   obtain ⟨k,hk,rfl,hpre,hbr⟩:=hrel;have HP:=aa hpre;clear hpre;have hbt:=below2 hbel hbr;by_cases hlt:k<L.length
   ·have hcell:=kept hbr (HC.out k hlt)
    have hk4:k<4:=by omega
    refine y47 ?_
    intro hD hml
    have hT:Hid (four (bl s)=(mF L[k] && (L.drop (k+1)).all jS)):=by rw [Hid,HP.out,hD,List.all_cons,Ou]
    obtain ⟨t,ht⟩:∃ t,t=mkS L[k]:=⟨_,rfl⟩;rw [<- ht] at hcell;have Cj:L[k]=bl t:=by rw [ht,mO]
    rw [Cj] at hT;have hts:t.size<=1073741824:=by rw [ht,lV];exact hml
    clear HP ht Cj hml hD;have mW:=fun (W:World)=>Hq t W hts;have wO:=fun (W:World)=>oI t W (by unfold maxLen;omega);by_cases h0:0<t.size
    ·have d1:decide ((t.size:Int)<1)=false:=by simp;omega
     by_cases h3:t.size<=3
     ·have d3:decide (3<(t.size:Int))=false:=by simp;omega
      by_cases hall:(bl t).all isDigit=true
      ·have hnl:¬ digits (bl t)<t.size:=fun h=>(eH (bl t)).1 (by rw [aB];exact h) hall
       have hdl:=pW (bl t);rw [aB] at hdl;have d4:((digits (bl t):Int) != (t.size:Int))=false:=by rw [bne_eq_false_iff_eq];omega
       have QL:¬ (0<t.size/\∀ h:0<t.size,t[0].toNat=45):=fun ⟨_,h⟩=>by
              have h9:=uK hall h0;have:=h h0;simp [isDigit,this] at h9
       have hnv:=qx t QL;rw [if_pos ⟨h0,hall⟩] at hnv;have hnb:=wC (bl t) hall;obtain ⟨m,hm⟩:∃ m:Nat,kw (bl t)=(m:Int):=⟨(kw (bl t)).toNat,by omega⟩;rw [hnv,hm] at mW;simp only at mW;have hm2:m<=1099511627776:=by omega
       have hO:mF (bl t)=(decide (m<=255) && decide (kF m=bl t)):=by
              unfold mF;rw [hall,hm,Int.toNat_natCast,aB];rw [show decide ((m:Int)<=255)=decide (m<=255) by rw [Bool.eq_iff_iff];simp;omega];simp [h3,show 1<=t.size from h0]
       rw [hO] at hT;have htx:=fun (W:World)=>NZ m W (by omega);have hnum:=aa mW;have hdig:=aa wO;have HTX:=aa htx;clear mW wO htx hnv hm hnb hO hnl hall;by_cases h255:m<=255
       ·have d5:decide (255<(m:Int))=false:=by simp;omega
        by_cases htm:kF m=bl t
        ·have HE:Hid (four (bl s)=(L.drop (k+1)).all jS):=by rw [Hid,hT];simp [h255,htm]
         have d6:((mkS (kF m)).toList == t.toList)=true:=by rw [mZ,mO];simp [htm]
         clear hT htm;go_wp2;go_quiet ((first | (with_reducible exact quiet_of_same' (hdig.out _))))
         go_wp2_with (go_at_call 289;refine (hnum.out _).mono ?_;rintro e w2 ⟨rfl,rfl⟩)
         refine aH (by kernel_rfl) (by kernel_rfl) (fun W hW=>?_);have hcw:∀ i:After W,i.w.cell? ⟨g,k,none⟩=some (.string t):=fun i=>i.cell (by rw [hW.out];exact hcell);quiet_step (fail)
         quiet_step (fail)
         quiet_step (fail)
         quiet_step (fail)
         quiet_step (exact Calls.after (HTX.out _))
         quiet_step (fail)
         quiet_step (fail)
         quiet_step (fail)
         quiet_step (fail)
         quiet_step (fail)
         quiet_step (fail)
         refine wpQuiet_nil ?_;rintro _ ⟨i,rfl⟩;have hib:=i.h;generalize i.w=wi at hib ⊢;rw [hW.out] at hib;clear hcw;go_wp2;go_roundw
         case rel=>exact ⟨k+1,by omega,by go_num,HE.out,hbr.trans ((below_drewN' (B:=w1.heap.size) nq).trans (hib.mono (by simp;exact hbr.size)))⟩
         case measure => exact z69
        ·have HE:Hid (four (bl s)=false):=by rw [Hid,hT];simp [htm]
         have d6:((mkS (kF m)).toList == t.toList)=false:=by rw [mZ,mO];simpa using htm
         clear hT htm;go_wp2;go_quiet ((first | (with_reducible exact quiet_of_same' (hdig.out _))))
         go_wp2_with (go_at_call 289;refine (hnum.out _).mono ?_;rintro e w2 ⟨rfl,rfl⟩)
         refine aH (by kernel_rfl) (by kernel_rfl) (fun W hW=>?_);have hcw:∀ i:After W,i.w.cell? ⟨g,k,none⟩=some (.string t):=fun i=>i.cell (by rw [hW.out];exact hcell);quiet_step (fail)
         quiet_step (fail)
         quiet_step (fail)
         quiet_step (fail)
         quiet_step (exact Calls.after (HTX.out _))
         quiet_step (fail)
         quiet_step (fail)
         quiet_step (fail)
         quiet_step (fail)
         quiet_step (fail)
         quiet_step (fail)
         refine wpQuiet_nil ?_;rintro _ ⟨i,rfl⟩;have hib:=i.h;generalize i.w=wi at hib ⊢;rw [hW.out] at hib;clear hcw;go_wp2;go_ret;exact ⟨au HE.out.symm,hbt.trans ((below_drewN' nq).trans (hib.mono (by simp;exact hbt.size)))⟩
       ·have HE:Hid (four (bl s)=false):=by rw [Hid,hT];simp [h255]
        have d5:decide (255<(m:Int))=true:=by simp;omega
        clear hT;go_wp2;go_quiet ((first | (with_reducible exact quiet_of_same' (hdig.out _))))
        go_wp2_with (go_at_call 289;refine (hnum.out _).mono ?_;rintro e w2 ⟨rfl,rfl⟩)
        go_quiet (fail)
        go_wp2;go_ret;exact ⟨au HE.out.symm,hbt.trans ((below_drewN' _).trans (below_drewN' _))⟩
      ·have hnl:digits (bl t)<t.size:=by have:=(eH (bl t)).2 hall;rwa [aB] at this
       have d4:((digits (bl t):Int) != (t.size:Int))=true:=by rw [bne_iff_ne];omega
       have HE:Hid (four (bl s)=false):=by rw [Hid,hT];unfold mF;simp [hall]
       exact z44
     ·have d3:decide (3<(t.size:Int))=true:=by simp;omega
      have HE:Hid (four (bl s)=false):=by rw [Hid,hT];unfold mF;rw [aB];simp [h3]
      exact z44
    ·have d1:decide ((t.size:Int)<1)=true:=by simp;omega
     have HE:Hid (four (bl s)=false):=by rw [Hid,hT];unfold mF;rw [aB];simp [show ¬ 1<=t.size from h0]
     exact z44
   ·have HE:Hid (four (bl s)=true):=by rw [Hid,HP.out,List.drop_eq_nil_of_le (by omega)];rfl
    go_wp2;go_ret;exact ⟨au HE.out.symm,hbt⟩
 ·have e4:((L.length:Int) != 4)=true:=by rw [bne_iff_ne];omega
  have HE:Hid (four (bl s)=false):=by rw [Hid,IG.out];simp [h4]
  clear h4;go_enter func269,ntmps269;go_wp2_with (go_at_call 270;refine (HS.out _).mono ?_;rintro e w1 ⟨v,rfl,hown,hbel⟩;obtain ⟨g,cap,rfl,hcells⟩:=nK hown hne;have HC:=aa hcells;clear hcells hown)
  exact z153
theorem oO (s:ByteArray) (w:World) (hs:s.size<=1073741824) :
 Calls prog 195 #[.string s] w fun e w'=>e=.returned (.bool (address (bl s)))/\Below w.heap.size w w':=by
 have HD:Hid (address (bl s)=(four (bl s) || bracket (bl s))):=rfl
 cases h4:four (bl s) with
 | true =>
   have HE:Hid (address (bl s)=true):=by rw [Hid,HD.out,h4];rfl
   go_enter func195,ntmps195;go_wp2_with (go_at_call 240;refine (IU s _ hs).mono ?_;rintro e w1 ⟨rfl,hb⟩)
   go_ret;exact ⟨au HE.out.symm,hb⟩
 | false =>
   have HE:Hid (address (bl s)=bracket (bl s)):=by rw [Hid,HD.out,h4];rfl
   go_enter func195,ntmps195;go_wp2_with (first | (go_at_call 240;refine (IU s _ hs).mono ?_;rintro e w1 ⟨rfl,hb⟩) | (go_at_call 241;refine (Jq s _ hs).mono ?_;rintro e w2 ⟨rfl,hb2⟩))
   go_ret;exact ⟨au HE.out.symm,below2 hb hb2⟩
theorem FU (s:ByteArray) (w:World) (hs:s.size<=1073741824) :
 Calls prog 247 #[.string s] w fun e w'=>e=.returned (.bool (address (bl s)))/\Below w.heap.size w w':=by
 have HD:Hid (address (bl s)=(four (bl s) || bracket (bl s))):=rfl
 cases h4:four (bl s) with
 | true =>
   have HE:Hid (address (bl s)=true):=by rw [Hid,HD.out,h4];rfl
   go_enter func247,ntmps247;go_wp2_with (go_at_call 269;refine (sZ s _ hs).mono ?_;rintro e w1 ⟨rfl,hb⟩)
   go_ret;exact ⟨au HE.out.symm,hb⟩
 | false =>
   have HE:Hid (address (bl s)=bracket (bl s)):=by rw [Hid,HD.out,h4];rfl
   go_enter func247,ntmps247;go_wp2_with (first | (go_at_call 269;refine (sZ s _ hs).mono ?_;rintro e w1 ⟨rfl,hb⟩) | (go_at_call 272;refine (FN s _ hs).mono ?_;rintro e w2 ⟨rfl,rfl⟩))
   go_ret;exact ⟨au HE.out.symm,hb⟩
theorem z109 {p : Prop} (h : p := by
 have HE : Hid (hname (bl s) = true) := by rw [Hid, HP.out, List.drop_eq_nil_of_le (by omega)]; rfl
 go_wp2
 go_ret
 exact ⟨au HE.out.symm, below2 hb0 hbel⟩) : p := h
theorem name_any (s:ByteArray) (w:World) (hs:s.size<=1073741824) :
 Calls prog 194 #[.string s] w fun e w'=>e=.returned (.bool (hname (bl s)))/\Below w.heap.size w w':=by
 have hdef:hname (bl s)=(decide (s.size<=256) && !address (bl s) && labels (bl s)):=by unfold hname;rw [aB]
 by_cases h256:s.size<=256
 ·cases ha:address (bl s) with
  | true =>
    have HE:Hid (hname (bl s)=false):=by rw [Hid,hdef,ha];simp
    clear hdef;go_enter func194,ntmps194;go_wp2_with (go_at_call 195;refine (oO s _ hs).mono ?_;rintro e w1 ⟨rfl,hb⟩)
    go_ret;exact ⟨au HE.out.symm,hb⟩
  | false =>
    obtain ⟨L,hL⟩:∃ L,L=splitB 46 (bl s):=⟨_,rfl⟩;have hsp:=fun (W:World)=>Fa s 46 W hs;have hne:L≠[]:=by rw [hL];exact jF _ _
    have hmem:Hid (∀ p∈L,p.length<=1073741824):=fun p hp=>by
        exact z95
    have HL:Hid (hname (bl s)=L.all label):=by rw [Hid,hdef,ha];unfold labels;rw [<- hL];simp [h256]
    rw [<- hL] at hsp;have hlen:L.length<=1073741825:=by rw [hL];exact sU 46 s hs
    have HS:=aa hsp;clear hsp hL hdef;go_enter func194,ntmps194;go_wp2_with (first
        | (go_at_call 195;refine (oO s _ hs).mono ?_;rintro e w0 ⟨rfl,hb0⟩)
        | (go_at_call 238;refine (HS.out _).mono ?_;rintro e w1 ⟨v,rfl,hown,hbel⟩;obtain ⟨g,cap,rfl,hcells⟩:=nK hown hne;have HC:=aa hcells;clear hcells hown))
    go_loop [4,15] (fun _ i=>∃ k:Nat,k<=L.length/\i=.int .i64 k/\hname (bl s)=(L.drop k).all label) (fun _ i=>L.length - (intOf i).toNat)
    case atStart=>exact ⟨0,Nat.zero_le _,rfl,HL.out⟩
    case round =>
        obtain ⟨k,hk,rfl,hpre⟩:=hrel;have HP:=aa hpre;clear hpre;by_cases hlt:k<L.length
        ·have hcell:=HC.out k hlt
         refine y47 ?_
         intro hD hml
         have hT:Hid (hname (bl s)=(label L[k] && (L.drop (k+1)).all label)):=by rw [Hid,HP.out,hD,List.all_cons]
         have Ce:=fun (W:World)=>OH (mkS L[k]) W (by rw [lV];exact hml);rw [mO] at Ce;have HLA:=aa Ce;clear Ce hD hml HP
         cases hq:label L[k] with
         | true =>
           rw [hq] at hT HLA;go_wp2_with (go_at_call 239;refine (HLA.out _).mono ?_;rintro e w2 ⟨rfl,rfl⟩)
           go_round
           case rel=>exact ⟨k+1,by omega,by go_num,by rw [hT.out];simp⟩
           case measure => exact z69
         | false =>
           rw [hq] at hT HLA;go_wp2_with (go_at_call 239;refine (HLA.out _).mono ?_;rintro e w2 ⟨rfl,rfl⟩)
           go_ret;exact ⟨au (by rw [hT.out];rfl),below2 hb0 hbel⟩
        ·exact z109
 ·have HE:Hid (hname (bl s)=false):=by rw [Hid,hdef];simp [h256]
  clear hdef;go_enter func194,ntmps194
  exact z60
/-- an address in brackets has no labels -/
theorem Dp (l:Bytes) (h:bracket l=true):labels l=false:=by
 unfold bracket at h;simp only [Bool.and_eq_true,decide_eq_true_eq] at h;obtain ⟨⟨⟨⟨h4,_⟩,h91⟩,_⟩,_⟩:=h;match l,h4 with
 | x :: r,_ =>
   have hx:x.toNat=91:=by simpa using h91
   unfold labels
   cases hs:splitB 46 r with
   | nil=>exact absurd hs (jF _ _)
   | cons a b =>
     have:splitB 46 (x :: r)=(x :: a) :: b:=by rw [splitB,if_neg (by rw [hx];decide),hs]
     rw [this,List.all_cons];have hf:label (x :: a)=false:=by unfold label;simp [mG,hx]
     rw [hf];rfl
theorem OT (l:Bytes):hname l=(decide (l.length<=256) && !four l && labels l):=by
 unfold hname address
 cases hb:bracket l with
 | false=>simp
 | true=>simp [Dp l hb]
theorem Ej (s:ByteArray) (w:World) (hs:s.size<=1073741824) :
 Calls prog 246 #[.string s] w fun e w'=>e=.returned (.bool (hname (bl s)))/\Below w.heap.size w w':=by
 have hdef:hname (bl s)=(decide (s.size<=256) && !four (bl s) && labels (bl s)):=by rw [OT,aB]
 by_cases h256:s.size<=256
 ·cases ha:four (bl s) with
  | true =>
    have HE:Hid (hname (bl s)=false):=by rw [Hid,hdef,ha];simp
    clear hdef;go_enter func246,ntmps246;go_wp2_with (go_at_call 269;refine (sZ s _ hs).mono ?_;rintro e w1 ⟨rfl,hb⟩)
    go_ret;exact ⟨au HE.out.symm,hb⟩
  | false =>
    obtain ⟨L,hL⟩:∃ L,L=splitB 46 (bl s):=⟨_,rfl⟩;have hsp:=fun (W:World)=>AV s 46 W hs;have hne:L≠[]:=by rw [hL];exact jF _ _
    have hmem:Hid (∀ p∈L,p.length<=1073741824):=fun p hp=>by
        exact z95
    have HL:Hid (hname (bl s)=L.all label):=by rw [Hid,hdef,ha];unfold labels;rw [<- hL];simp [h256]
    rw [<- hL] at hsp;have hlen:L.length<=1073741825:=by rw [hL];exact sU 46 s hs
    have HS:=aa hsp;clear hsp hL hdef;go_enter func246,ntmps246;go_wp2_with (first
        | (go_at_call 269;refine (sZ s _ hs).mono ?_;rintro e w0 ⟨rfl,hb0⟩)
        | (go_at_call 270;refine (HS.out _).mono ?_;rintro e w1 ⟨v,rfl,hown,hbel⟩;obtain ⟨g,cap,rfl,hcells⟩:=nK hown hne;have HC:=aa hcells;clear hcells hown))
    go_loop [4] (fun i=>∃ k:Nat,k<=L.length/\i=.int .i64 k/\hname (bl s)=(L.drop k).all label) (fun i=>L.length - (intOf i).toNat)
    case atStart=>exact ⟨0,Nat.zero_le _,rfl,HL.out⟩
    case round =>
        obtain ⟨k,hk,rfl,hpre⟩:=hrel;have HP:=aa hpre;clear hpre;by_cases hlt:k<L.length
        ·have hcell:=HC.out k hlt
         refine y47 ?_
         intro hD hml
         have hT:Hid (hname (bl s)=(label L[k] && (L.drop (k+1)).all label)):=by rw [Hid,HP.out,hD,List.all_cons]
         have Ce:=fun (W:World)=>J4 (mkS L[k]) W (by rw [lV];exact hml);rw [mO] at Ce;have HLA:=aa Ce;clear Ce hD hml HP
         cases hq:label L[k] with
         | true =>
           rw [hq] at hT HLA;go_wp2_with (go_at_call 271;refine (HLA.out _).mono ?_;rintro e w2 ⟨rfl,rfl⟩)
           go_round
           case rel=>exact ⟨k+1,by omega,by go_num,by rw [hT.out];simp⟩
           case measure => exact z69
         | false =>
           rw [hq] at hT HLA;go_wp2_with (go_at_call 271;refine (HLA.out _).mono ?_;rintro e w2 ⟨rfl,rfl⟩)
           go_ret;exact ⟨au (by rw [hT.out];rfl),below2 hb0 hbel⟩
        ·exact z109
 ·have HE:Hid (hname (bl s)=false):=by rw [Hid,hdef];simp [h256]
  clear hdef;go_enter func246,ntmps246
  exact z60
def fZ (l:Bytes):Bool:=decide (l.length<=256) && (hname l || address l)
def qI (l:Bytes):Int:=if 256<l.length then 3 else if hname (dH l)=true\/address (dH l)=true then 0 else 1
def oq (l:Bytes):Bytes:=if 256<l.length then [] else if hname (dH l)=true\/address (dH l)=true then dH l else []
theorem PU (s:ByteArray) (w:World) (hs:s.size<=1073741824) :
 Calls prog 153 #[.string s] w fun e w'=>e=.returned (.tuple #[.string (mkS (oq (bl s))),.int .i64 (qI (bl s))])/\Below w.heap.size w w':=by
 by_cases h256:s.size<=256
 ·have hlo:=fun (W:World)=>PP s W hs
  obtain ⟨t,ht⟩:∃ t,t=mkS (dH (bl s)):=⟨_,rfl⟩;have hbt:dH (bl s)=bl t:=by rw [ht,mO]
  have hts:t.size<=1073741824:=by rw [ht,lV];unfold dH;simp [aB];omega
  rw [<- ht] at hlo;have hE:qI (bl s)=if hname (bl t)=true\/address (bl t)=true then 0 else 1:=by unfold qI;rw [aB,if_neg (by omega),hbt]
  have hT:oq (bl s)=if hname (bl t)=true\/address (bl t)=true then bl t else []:=by unfold oq;rw [aB,if_neg (by omega),hbt]
  have HL:=aa hlo;clear hlo ht hbt
  cases hn:hname (bl t) with
  | true =>
    rw [hn,if_pos (a8 rfl)] at hE hT;have HE:=aa hE;have HT:=aa hT;clear hE hT;go_enter func153,ntmps153;go_wp2_with (first
        | (go_at_call 193;refine (HL.out _).mono ?_;rintro e w1 ⟨rfl,hb1⟩)
        | (go_at_call 194;refine (name_any t _ hts).mono ?_;rintro e w2 ⟨rfl,hb2⟩))
    go_ret2;exact ⟨by rw [HE.out,HT.out,BA];rfl,below2 hb1 hb2⟩
  | false =>
    cases ha:address (bl t) with
    | true =>
      rw [hn,ha,if_pos (ba rfl)] at hE hT;have HE:=aa hE;have HT:=aa hT;clear hE hT;go_enter func153,ntmps153;go_wp2_with (first
       | (go_at_call 193;refine (HL.out _).mono ?_;rintro e w1 ⟨rfl,hb1⟩)
       | (go_at_call 194;refine (name_any t _ hts).mono ?_;rintro e w2 ⟨rfl,hb2⟩)
       | (go_at_call 195;refine (oO t _ hts).mono ?_;rintro e w3 ⟨rfl,hb3⟩))
      go_ret2;exact ⟨by rw [HE.out,HT.out,BA];rfl,below2 (below2 hb1 hb2) hb3⟩
    | false =>
      rw [hn,ha] at hE hT;have HE:=aa hE;have HT:=aa hT;clear hE hT;go_enter func153,ntmps153;go_wp2_with (first
       | (go_at_call 193;refine (HL.out _).mono ?_;rintro e w1 ⟨rfl,hb1⟩)
       | (go_at_call 194;refine (name_any t _ hts).mono ?_;rintro e w2 ⟨rfl,hb2⟩)
       | (go_at_call 195;refine (oO t _ hts).mono ?_;rintro e w3 ⟨rfl,hb3⟩))
      go_ret2;exact ⟨by rw [HE.out,HT.out,if_neg (by simp),if_neg (by simp)];rfl,below2 (below2 hb1 hb2) hb3⟩
 ·have HE:Hid (qI (bl s)=3):=by unfold Hid qI;rw [aB,if_pos (by omega)]
  have HT:Hid (oq (bl s)=[]):=by unfold Hid oq;rw [aB,if_pos (by omega)]
  go_enter func153,ntmps153;go_wp2;go_ret2;exact ⟨by rw [HE.out,HT.out];rfl,bb _ _⟩
theorem Bc (s:ByteArray) (w:World) (hs:s.size<=1073741824) :
 Calls prog 202 #[.string s] w fun e w'=>e=.returned (.bool (fZ (bl s)))/\Below w.heap.size w w':=by
 have hd:fZ (bl s)=(decide (s.size<=256) && (hname (bl s) || address (bl s))):=by unfold fZ;rw [aB]
 by_cases h256:s.size<=256
 ·cases hn:hname (bl s) with
  | true =>
    have HE:Hid (fZ (bl s)=true):=by rw [Hid,hd,hn];simp [h256]
    clear hd;go_enter func202,ntmps202;go_wp2_with (go_at_call 246;refine (Ej s _ hs).mono ?_;rintro e w1 ⟨rfl,hb1⟩)
    go_ret;exact ⟨au HE.out.symm,hb1⟩
  | false =>
    have HE:Hid (fZ (bl s)=address (bl s)):=by rw [Hid,hd,hn];simp [h256]
    clear hd;go_enter func202,ntmps202;go_wp2_with (first
        | (go_at_call 246;refine (Ej s _ hs).mono ?_;rintro e w1 ⟨rfl,hb1⟩)
        | (go_at_call 247;refine (FU s _ hs).mono ?_;rintro e w2 ⟨rfl,hb2⟩))
    go_ret;exact ⟨au HE.out.symm,below2 hb1 hb2⟩
 ·have HE:Hid (fZ (bl s)=false):=by rw [Hid,hd];simp [h256]
  clear hd;go_enter func202,ntmps202
  exact z60
/-! ### what is fZ has no capitals -/
theorem Ik {c:UInt8} (h:¬ (65<=c.toNat/\c.toNat<=90)):lowerB c=c:=by unfold lowerB;rw [if_neg h]
theorem qi (c:UInt8):∀ (l:Bytes) (x:UInt8),x∈l->x.toNat=c.toNat\/∃ p∈splitB c l,x∈p
 | [],x,h=>by simp at h
 | y :: r,x,h=>by
   by_cases hy:y.toNat=c.toNat
   ·rcases List.mem_cons.1 h with rfl | h
    ·exact a8 hy
    ·rcases qi c r x h with h1 | ⟨p,hp,hx⟩
     ·exact a8 h1
     ·exact ba ⟨p,by rw [splitB,if_pos hy];exact List.mem_cons_of_mem _ hp,hx⟩
   ·cases hs:splitB c r with
    | nil=>exact absurd hs (jF c r)
    | cons a b =>
      have e:splitB c (y :: r)=(y :: a) :: b:=by rw [splitB,if_neg hy,hs]
      rw [e];rcases List.mem_cons.1 h with rfl | h
      ·exact ba ⟨x :: a,by simp,by simp⟩
      ·rcases qi c r x h with h1 | ⟨p,hp,hx⟩
       ·exact a8 h1
       ·rw [hs] at hp
        rcases List.mem_cons.1 hp with rfl | hp
        ·exact ba ⟨y :: p,by simp,by simp [hx]⟩
        ·exact ba ⟨p,by simp [hp],hx⟩
theorem qZ {l:Bytes} (h:∀ x∈l,¬ (65<=x.toNat/\x.toNat<=90)):dH l=l:=by
 unfold dH;have:∀ x∈l,lowerB x=id x:=fun x hx=>Ik (h x hx);rw [List.map_congr_left this];simp
theorem qY {l:Bytes} (h:hname l=true):dH l=l:=by
 unfold hname labels at h;simp only [Bool.and_eq_true] at h;refine qZ fun x hx=>?_;rcases qi 46 l x hx with h1 | ⟨p,hp,hxp⟩
 ·rw [h1];decide
 ·have hl:=List.all_eq_true.1 h.2 p hp
  unfold label at hl;simp only [Bool.and_eq_true] at hl;have:=List.all_eq_true.1 hl.1.1.2 x hxp;unfold mG at this;simp at this;omega
theorem oW {l:Bytes} (h:address l=true):dH l=l:=by
 unfold address at h;simp only [Bool.or_eq_true] at h;rcases h with h | h
 ·unfold four at h
  simp only [Bool.and_eq_true] at h;refine qZ fun x hx=>?_;rcases qi 46 l x hx with h1 | ⟨p,hp,hxp⟩
  ·rw [h1];decide
  ·have hl:=List.all_eq_true.1 h.2 p hp
   unfold jS at hl;simp only [Bool.and_eq_true] at hl;have:=nY (List.all_eq_true.1 hl.1.1.2 x hxp);omega
 ·unfold bracket at h
  simp only [Bool.and_eq_true,decide_eq_true_eq] at h;obtain ⟨⟨⟨⟨h4,_⟩,h91⟩,h93⟩,hm⟩:=h;refine qZ fun x hx=>?_;obtain ⟨i,hi,rfl⟩:=List.mem_iff_getElem.1 hx;by_cases h0:i=0
  ·subst h0
   have hh:l.head?=some l[0]:=by rw [List.head?_eq_getElem?];simp
   rw [hh] at h91;have:l[0].toNat=91:=by simpa using h91
   omega
  ·by_cases h1:i=l.length - 1
   ·subst h1
    have hh:l.getLast?=some l[l.length - 1]:=by rw [List.getLast?_eq_getElem?];simp
    rw [hh] at h93;have:l[l.length - 1].toNat=93:=by simpa using h93
    omega
   ·have hb:jy l[i]=true:=by
     refine List.all_eq_true.1 hm _ (List.mem_iff_getElem.2 ⟨i - 1,by simp;omega,?_⟩);rw [List.getElem_take,List.getElem_drop];simp only [show 1+(i - 1)=i by omega]
    unfold jy at hb;simp at hb;omega
theorem Px (l:Bytes):(decide (qI l=0) && decide (oq l=l))=fZ l:=by
 unfold qI oq fZ;by_cases h:256<l.length
 ·simp [h,show ¬ l.length<=256 by omega]
 ·by_cases hc:hname (dH l)=true\/address (dH l)=true
  ·have e:dH (dH l)=dH l:=by rcases hc with h1 | h1;exact qY h1;exact oW h1
   simp only [if_neg h,if_pos hc,show l.length<=256 by omega,decide_true,Bool.true_and];rw [Bool.eq_iff_iff,decide_eq_true_eq,Bool.or_eq_true];constructor
   ·intro e2;rw [e2] at hc;exact hc
   ·rintro (h1 | h1)
    ·exact qY h1
    ·exact oW h1
  ·have hc2:¬ (hname l=true\/address l=true):=by
        rintro (h1 | h1)
        ·exact hc (a8 (by rw [qY h1];exact h1))
        ·exact hc (ba (by rw [oW h1];exact h1))
   simp only [if_neg h,if_neg hc];have h3:hname l=false:=by simpa using fun x=>hc2 (a8 x)
   have h4:address l=false:=by simpa using fun x=>hc2 (ba x)
   simp [h3,h4]
end Go.Proofs.YthphepeniaemoaaGreat
