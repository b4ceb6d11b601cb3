/- Which cookies may be: package cookie's Right and the reference's. Conditions: texts of at most 2^30 bytes. -/
import Derived.Test.YtepkclldbkhanaaGreatCookie
import Derived.Test.YtepkclldbkhanaaGreatDot
set_option linter.unusedSimpArgs false
set_option linter.unusedVariables false
set_option linter.unnecessarySimpa false
set_option maxHeartbeats 16000000
set_option maxRecDepth 100000
open Go.Proofs.Tryz
namespace Go.Proofs.YtepkclldbkhanaaGreat
open Go.RowKit
def oI (c:Ck):Bool:=(decide (-1099511627776≤c.expiry) && decide (c.expiry≤1099511627776)) && ((decide (0≤c.creation) && decide (c.creation≤1099511627776)) && ((decide (0≤c.access) && decide (c.access≤1099511627776)) && (c.persistent || decide (c.expiry=1099511627776))))
def lq (l:Bytes):Bool:=decide (0<l.length) && ((l.head?.any fun x=>decide (x.toNat=47)) && decide (l.length≤256))
def gQ (k:Key) (c:Ck):Bool:=decide (0<k.name.size) && (fH 256 [59,61] (bl k.name) && (fH 1024 [59] (bl c.value) && (gJ (bl k.domain) && (lq (bl k.path) && oI c))))
abbrev zu (c:Ck):List Value:=[.string c.value,.bool c.hostOnly,.bool c.secure,.bool c.httpOnly,.bool c.persistent,.int .i64 c.expiry,.int .i64 c.creation,.int .i64 c.access]
theorem zI (s:ByteArray):decide (0<s.size)=decide (¬ s.toList=[]):=by
 by_cases h:0<s.size
 ·simp [h,lX h]
 ·simp only [h,lH h,not_true_eq_false]
theorem GK {s:ByteArray} (h:s.toList=[]):lq (bl s)=false:=by
 unfold lq;rw [aH,zI];simp [h]
theorem LD {s:ByteArray} (h:0<s.size) (h2:¬ (s[0].toNat:Int)=47):lq (bl s)=false:=by
 unfold lq;rw [sO s h];simp only [Option.any_some];rw [decide_eq_false (show ¬ s[0].toNat=47 by omega)];simp
theorem GL {s:ByteArray} (h:256<(s.size:Int)):lq (bl s)=false:=by
 unfold lq;rw [aH,decide_eq_false (show ¬ s.size≤256 by omega)];simp
theorem GI {s:ByteArray} (h:0<s.size) (h2:(s[0].toNat:Int)=47) (h3:(s.size:Int)≤256):lq (bl s)=true:=by
 unfold lq;rw [sO s h,aH];simp only [Option.any_some];rw [decide_eq_true h,decide_eq_true (show s[0].toNat=47 by omega),decide_eq_true (show s.size≤256 by omega)];rfl
/-- in block b lie a key's cells, a cookie's -/
structure KeyAt (w:World) (b:Nat) (k:Key):Prop where
 c0:w.cell? ⟨b,0,none⟩=some (.string k.name)
 c1:w.cell? ⟨b,1,none⟩=some (.string k.domain)
 c2:w.cell? ⟨b,2,none⟩=some (.string k.path)
structure CkAt (w:World) (b:Nat) (c:Ck):Prop where
 c0:w.cell? ⟨b,0,none⟩=some (.string c.value)
 c1:w.cell? ⟨b,1,none⟩=some (.bool c.hostOnly)
 c2:w.cell? ⟨b,2,none⟩=some (.bool c.secure)
 c3:w.cell? ⟨b,3,none⟩=some (.bool c.httpOnly)
 c4:w.cell? ⟨b,4,none⟩=some (.bool c.persistent)
 c5:w.cell? ⟨b,5,none⟩=some (.int .i64 c.expiry)
 c6:w.cell? ⟨b,6,none⟩=some (.int .i64 c.creation)
 c7:w.cell? ⟨b,7,none⟩=some (.int .i64 c.access)
theorem KeyAt.kept {w w':World} {b:Nat} {k:Key} (h:KeyAt w b k) (hb:Below w.heap.size w w'):KeyAt w' b k:=⟨YtepkclldbkhanaaGreat.kept hb h.c0,YtepkclldbkhanaaGreat.kept hb h.c1,YtepkclldbkhanaaGreat.kept hb h.c2⟩
theorem CkAt.kept {w w':World} {b:Nat} {k:Ck} (h:CkAt w b k) (hb:Below w.heap.size w w'):CkAt w' b k :=
 ⟨YtepkclldbkhanaaGreat.kept hb h.c0,YtepkclldbkhanaaGreat.kept hb h.c1,YtepkclldbkhanaaGreat.kept hb h.c2,YtepkclldbkhanaaGreat.kept hb h.c3,YtepkclldbkhanaaGreat.kept hb h.c4,YtepkclldbkhanaaGreat.kept hb h.c5,YtepkclldbkhanaaGreat.kept hb h.c6,YtepkclldbkhanaaGreat.kept hb h.c7⟩
theorem Uz (w:World) (t:TypeId):BytesAt (w.alloc (Obj.cells #[.int .u8 59,.int .u8 61] t)) w.heap.size 0 [59,61]:=by
 intro j hj;match j,hj with
 | 0,_=>simp [World.cell?_alloc_new]
 | 1,_=>simp [World.cell?_alloc_new]
theorem UA (w:World) (t:TypeId):BytesAt (w.alloc (Obj.cells #[.int .u8 59] t)) w.heap.size 0 [59]:=by
 intro j hj;match j,hj with
 | 0,_=>simp [World.cell?_alloc_new]
theorem Dq (k:Key) (c:Ck) (p:Bool) (hp:Hid (c.persistent=p)) (w:World) (h1:k.name.size≤1073741824) (h2:k.domain.size≤1073741824) (h3:k.path.size≤1073741824) (h4:c.value.size≤1073741824) :
 Calls prog 141 #[.agg #[.string k.name,.string k.domain,.string k.path,.string c.value,.bool c.hostOnly,.bool c.secure,.bool c.httpOnly,.bool p,.int .i64 c.expiry,.int .i64 c.creation,.int .i64 c.access]] w fun e w'=>e=.returned (.bool (gQ k c))∧Below w.heap.size w w':=by
 cases p
 all_goals
  go_enter func141,ntmps141;go_upto_region 1 with fail
  go_cut [3,4] (fun v3 v4 wx=>∃ a b,v3=.pointer (some ⟨a,0,none⟩)∧v4=.pointer (some ⟨b,0,none⟩)∧KeyAt wx a k∧CkAt wx b c∧Below w.heap.size w wx)
  case first =>
   go_region
   all_goals
        go_wp2;go_meet;refine ⟨_,_,rfl,rfl,⟨?_,?_,?_⟩,⟨?_,?_,?_,?_,?_,?_,?_,?_⟩,?_⟩;all_goals first | (go_simp;done) | (go_grown;done) | (rw [hp.out];go_simp;done)
  case rest =>
   obtain ⟨a,b,rfl,rfl,hka,hcb,hbel⟩:=hcut;have hcan:=fun (W:World)=>O4 k.domain W h2;have hI:gQ k c=(decide (¬ k.name.toList=[]) && (fH 256 [59,61] (bl k.name) && (fH 1024 [59] (bl c.value) && ((decide (qN (bl k.domain)=0) && decide (oC (bl k.domain)=bl k.domain)) && (lq (bl k.path) && oI c))))):=by unfold gQ;rw [OJ,zI]
   have hTq:((mkS (oC (bl k.domain))).toList == k.domain.toList)=decide (oC (bl k.domain)=bl k.domain):=by rw [mF,lG]
   generalize qN (bl k.domain)=ce at *;generalize oC (bl k.domain)=ct at *;have HC:=Lib.hid hcan;have HI:=Lib.hid hI;clear hcan hI;obtain ⟨ka0,ka1,ka2⟩:=hka;obtain ⟨cb0,cb1,cb2,cb3,cb4,cb5,cb6,cb7⟩:=hcb;rw [hp.out] at cb4;have hP1:∀ (A:Nat) (W:World),BytesAt W A 0 [59,61]→Calls prog 173 #[.string k.name,.int .i64 256,.slice (some ⟨A,0,none⟩) 2 2] W fun e w'=>e=.returned (.bool (fH 256 [59,61] (bl k.name)))∧Below W.heap.size W w':=fun A W hb=>DV k.name 256 A [59,61] W h1 (by omega) (by simp) hb;have hP2:∀ (A:Nat) (W:World),BytesAt W A 0 [59]→Calls prog 173 #[.string c.value,.int .i64 1024,.slice (some ⟨A,0,none⟩) 1 1] W fun e w'=>e=.returned (.bool (fH 1024 [59] (bl c.value)))∧Below W.heap.size W w':=fun A W hb=>DV c.value 1024 A [59] W h4 (by omega) (by simp) hb;have HP1:=Lib.hid hP1;have HP2:=Lib.hid hP2;clear hP1 hP2;go_upto_region 3 with (go_at_call 171;refine (HC.out _).mono ?_;rintro e w1 ⟨rfl,hb1⟩;replace ka0:=kept hb1 ka0;replace ka1:=kept hb1 ka1;replace ka2:=kept hb1 ka2;replace cb0:=kept hb1 cb0;replace cb4:=kept hb1 cb4;replace cb5:=kept hb1 cb5;replace cb6:=kept hb1 cb6;replace cb7:=kept hb1 cb7)
   go_cut [7] (fun v7 wx=>v7=.bool (oI c)∧wx=w1)
   case first =>
        go_wp2_with (go_at_call 172;refine (Jh _ _ _ _).mono ?_;rintro e w2 ⟨rfl,rfl⟩)
        all_goals
         go_meet;exact ⟨congrArg Value.bool (by unfold oI;rw [hp.out,Bool.eq_iff_iff];simp [*] <;> omega),rfl⟩
   case rest =>
        obtain ⟨rfl,rfl⟩:=hcut;have hb2:=below2 hbel hb1;go_wp2_with (first
         | (go_at_call 173;(with_reducible refine (HP1.out _ _ (Uz _ _)).mono ?_);rintro e w2 ⟨rfl,hb3⟩;have hb4:=below2 ((Below.refl _ _).alloc (Nat.le_refl _) _) hb3;replace ka0:=kept hb4 ka0;replace ka1:=kept hb4 ka1;replace ka2:=kept hb4 ka2;replace cb0:=kept hb4 cb0;replace hb2:=below2 hb2 hb4;clear hb3 hb4)
         | (go_at_call 173;(with_reducible refine (HP2.out _ _ (UA _ _)).mono ?_);rintro e w2 ⟨rfl,hb3⟩;have hb4:=below2 ((Below.refl _ _).alloc (Nat.le_refl _) _) hb3;replace ka0:=kept hb4 ka0;replace ka1:=kept hb4 ka1;replace ka2:=kept hb4 ka2;replace cb0:=kept hb4 cb0;replace hb2:=below2 hb2 hb4;clear hb3 hb4))
        all_goals first
         | (go_ret;exact ⟨aJ (by rw [HI.out];first | (simp [*];done) | (rw [GK ‹_›];simp;done) | (rw [LD ‹_› ‹_›];simp;done) | (rw [GL ‹_›];simp;done) | (rw [GI ‹_› ‹_› ‹_›];simp [*];done)),hb2⟩)
         | exact absurd (lH ‹¬ 0<k.path.size›) ‹_›
theorem z136 {p : Prop} (h : p := by
 unfold fH lZ
 simp only [List.all_cons, List.all_nil, Bool.and_true]
 cases control l <;> cases decide (trim l = l) <;> simp [Bool.and_comm]) : p := h
theorem Fa (l:Bytes):fH 256 [59,61] l=(decide (l.length≤256) && (lZ l && decide (dU 61 l=none))):=by
 exact z136
theorem CV (l:Bytes):fH 1024 [59] l=(decide (l.length≤1024) && lZ l):=by
 exact z136
theorem J6 (k:Key) (c:Ck):gQ k c=(decide (¬ k.name.toList=[]) && (decide ((k.name.size:Int)≤256) && (lZ (bl k.name) && (decide (kW (bl k.name) 61<0) && (decide ((c.value.size:Int)≤1024) && (lZ (bl c.value) && (gJ (bl k.domain) && (lq (bl k.path) && oI c)))))))):=by
 unfold gQ;rw [zI,Fa,CV,aH,aH,Ii];rw [show decide ((k.name.size:Int)≤256)=decide (k.name.size≤256) by rw [Bool.eq_iff_iff];simp;omega];rw [show decide ((c.value.size:Int)≤1024)=decide (c.value.size≤1024) by rw [Bool.eq_iff_iff];simp;omega];simp only [Bool.and_assoc]
theorem y62 {p q : Prop} (k : q) (h : PLift q → p := by
 intro kk
 have cb5 : W.cell? ⟨w.heap.size + 2, 5, none⟩ = some (.int .i64 c.expiry) := by rw [hW.out]; go_simp
 have cb6 : W.cell? ⟨w.heap.size + 2, 6, none⟩ = some (.int .i64 c.creation) := by rw [hW.out]; go_simp
 have cb7 : W.cell? ⟨w.heap.size + 2, 7, none⟩ = some (.int .i64 c.access) := by rw [hW.out]; go_simp
 have hb2 : Below w.heap.size w W := by rw [hW.out]; go_grown
 revert cb5 cb6 cb7 hb2
 exact kk.down) : p := h ⟨k⟩
theorem z16 {p : Prop} (h : p := by
 refine y62 ?_
 intro cb5 cb6 cb7 hb2
 clear hW
 go_wp2_with (first
      | (go_at_call 175; (with_reducible refine (HPN.out _).mono ?_); rintro e w2 ⟨rfl, rfl⟩)
      | (go_at_call 175; (with_reducible refine (HPV.out _).mono ?_); rintro e w2 ⟨rfl, rfl⟩)
      | (go_at_call 176; refine (HF.out _).mono ?_; rintro e w2 ⟨rfl, rfl⟩)
      | (go_at_call 177; refine (HC.out _).mono ?_; rintro e w2 ⟨rfl, hb4⟩; replace ka2 := kept hb4 ka2; replace cb4 := kept hb4 cb4; replace cb5 := kept hb4 cb5; replace cb6 := kept hb4 cb6; replace cb7 := kept hb4 cb7; replace hb2 := below2 hb2 hb4; clear hb4))
 all_goals
      go_ret
      exact ⟨aJ (by rw [HE.out]; unfold oI; rw [hp.out, Bool.eq_iff_iff]; simp [*] <;> omega), hb2⟩) : p := h
theorem y60 {p q : Prop} (k : q) (h : PLift q → p := by
 intro kk
 refine au (fun W hW => ?_)
 have ka0 : W.cell? ⟨w.heap.size + 1, 0, none⟩ = some (.string k.name) := by rw [hW.out]; go_simp
 have ka1 : W.cell? ⟨w.heap.size + 1, 1, none⟩ = some (.string k.domain) := by rw [hW.out]; go_simp
 have ka2 : W.cell? ⟨w.heap.size + 1, 2, none⟩ = some (.string k.path) := by rw [hW.out]; go_simp
 have cb0 : W.cell? ⟨w.heap.size + 2, 0, none⟩ = some (.string c.value) := by rw [hW.out]; go_simp
 revert W hW ka0 ka1 ka2 cb0
 exact kk.down) : p := h ⟨k⟩
theorem y3 {p q : Prop} (k : q) (h : PLift q → p := by
 intro kk
 refine y60 ?_
 intro W hW ka0 ka1 ka2 cb0
 have cb4 : W.cell? ⟨w.heap.size + 2, 4, none⟩ = some (.bool p) := by rw [hW.out]; go_simp
 refine y62 ?_
 intro cb5 cb6 cb7 hb2
 revert W hW ka0 ka1 ka2 cb0 cb4 cb5 cb6 cb7 hb2
 exact kk.down) : p := h ⟨k⟩
theorem z14 {p : Prop} (h : p := by
 clear HI
 go_enter func149, ntmps149
 go_upto_region 4 with fail
 refine y3 ?_
 intro W hW ka0 ka1 ka2 cb0 cb4 cb5 cb6 cb7 hb2
 clear hW
 go_wp2_with (first
      | (go_at_call 175; (with_reducible refine (HPN.out _).mono ?_); rintro e w2 ⟨rfl, rfl⟩)
      | (go_at_call 175; (with_reducible refine (HPV.out _).mono ?_); rintro e w2 ⟨rfl, rfl⟩)
      | (go_at_call 176; refine (HF.out _).mono ?_; rintro e w2 ⟨rfl, rfl⟩)
      | (go_at_call 177; refine (HC.out _).mono ?_; rintro e w2 ⟨rfl, hb4⟩; replace ka2 := kept hb4 ka2; replace cb4 := kept hb4 cb4; replace cb5 := kept hb4 cb5; replace cb6 := kept hb4 cb6; replace cb7 := kept hb4 cb7; replace hb2 := below2 hb2 hb4; clear hb4))
 go_ret
 exact ⟨aJ HE.out.symm, hb2⟩) : p := h
theorem z7 {p : Prop} (h : p := by
 clear HI
 go_enter func149, ntmps149
 go_upto_region 4 with fail
 refine y3 ?_
 intro W hW ka0 ka1 ka2 cb0 cb4 cb5 cb6 cb7 hb2
 clear hW
 go_wp2_with (first
     | (go_at_call 175; (with_reducible refine (HPN.out _).mono ?_); rintro e w2 ⟨rfl, rfl⟩)
     | (go_at_call 175; (with_reducible refine (HPV.out _).mono ?_); rintro e w2 ⟨rfl, rfl⟩)
     | (go_at_call 176; refine (HF.out _).mono ?_; rintro e w2 ⟨rfl, rfl⟩)
     | (go_at_call 177; refine (HC.out _).mono ?_; rintro e w2 ⟨rfl, hb4⟩; replace ka2 := kept hb4 ka2; replace cb4 := kept hb4 cb4; replace cb5 := kept hb4 cb5; replace cb6 := kept hb4 cb6; replace cb7 := kept hb4 cb7; replace hb2 := below2 hb2 hb4; clear hb4))
 go_ret
 exact ⟨aJ HE.out.symm, hb2⟩) : p := h
theorem z2 {p : Prop} (h : p := by
 clear HI
 go_enter func149, ntmps149
 go_upto_region 4 with fail
 refine y3 ?_
 intro W hW ka0 ka1 ka2 cb0 cb4 cb5 cb6 cb7 hb2
 clear hW
 go_wp2_with (first
  | (go_at_call 175; (with_reducible refine (HPN.out _).mono ?_); rintro e w2 ⟨rfl, rfl⟩)
  | (go_at_call 175; (with_reducible refine (HPV.out _).mono ?_); rintro e w2 ⟨rfl, rfl⟩)
  | (go_at_call 176; refine (HF.out _).mono ?_; rintro e w2 ⟨rfl, rfl⟩)
  | (go_at_call 177; refine (HC.out _).mono ?_; rintro e w2 ⟨rfl, hb4⟩; replace ka2 := kept hb4 ka2; replace cb4 := kept hb4 cb4; replace cb5 := kept hb4 cb5; replace cb6 := kept hb4 cb6; replace cb7 := kept hb4 cb7; replace hb2 := below2 hb2 hb4; clear hb4))
 go_ret
 exact ⟨aJ HE.out.symm, hb2⟩) : p := h
theorem z133 {p : Prop} (h : p := by
 have HE : Hid (gQ k c = false) := by rw [Hid, HI.out]; simp
 exact z2) : p := h
theorem EX (k:Key) (c:Ck) (p:Bool) (hp:Hid (c.persistent=p)) (w:World) (h1:k.name.size≤1073741824) (h2:k.domain.size≤1073741824) (h4:c.value.size≤1073741824) :
 Calls prog 149 #[.agg #[.string k.name,.string k.domain,.string k.path,.string c.value,.bool c.hostOnly,.bool c.secure,.bool c.httpOnly,.bool p,.int .i64 c.expiry,.int .i64 c.creation,.int .i64 c.access]] w fun e w'=>e=.returned (.bool (gQ k c))∧Below w.heap.size w w':=by
 have HI:=Lib.hid (J6 k c);have UK:=Lib.hid (fun (W:World)=>zO k.name W h1);have UJ:=Lib.hid (fun (W:World)=>zO c.value W h4);have HF:=Lib.hid (fun (W:World)=>DL k.name 61 W (by unfold maxLen;omega));have HC0:=Lib.hid (fun (W:World)=>Ai k.domain W h2);generalize lZ (bl k.name)=b1 at HI UK;generalize lZ (bl c.value)=b2 at HI UJ;generalize gJ (bl k.domain)=b3 at HI HC0;generalize kW (bl k.name) 61=fi at HI HF;by_cases n0:0<k.name.size
 ·have t1:=lX n0
  have t1':=lI n0;by_cases n1:(k.name.size:Int)≤256
  ·skip
   by_cases n2:b1=true
   ·subst n2
    have HPN:=UK;by_cases n3:fi<0
    ·skip
     by_cases n4:(c.value.size:Int)≤1024
     ·skip
      by_cases n5:b2=true
      ·subst n5
       have HPV:=UJ;by_cases n6:b3=true
       ·subst n6
        have HC:=HC0;by_cases n7:0<k.path.size
        ·have t2:=lX n7
         have t2':=lI n7;by_cases n8:(k.path[0].toNat:Int)=47
         ·have t3:((k.path[0].toNat:Int) != 47)=false:=by rw [bne_eq_false_iff_eq];exact n8
          have N8:=Lib.hid n8;clear n8;by_cases n9:(k.path.size:Int)≤256
          ·skip
           have HE:Hid (gQ k c=oI c):=by rw [Hid,HI.out,GI n7 N8.out n9];simp [t1,n1,n3,n4]
           clear HI
           cases p
           ·go_enter func149,ntmps149
            go_upto_region 4 with fail
            refine y60 ?_
            intro W hW ka0 ka1 ka2 cb0
            have cb4:W.cell? ⟨w.heap.size+2,4,none⟩=some (.bool false):=by rw [hW.out];go_simp
            exact z16
           ·go_enter func149,ntmps149
            go_upto_region 4 with fail
            refine y60 ?_
            intro W hW ka0 ka1 ka2 cb0
            have cb4:W.cell? ⟨w.heap.size+2,4,none⟩=some (.bool true):=by rw [hW.out];go_simp
            exact z16
          ·skip
           have HE:Hid (gQ k c=false):=by rw [Hid,HI.out];rw [GL (by omega:256<(k.path.size:Int))];simp
           clear HI;go_enter func149,ntmps149;go_upto_region 4 with fail
           refine y3 ?_
           intro W hW ka0 ka1 ka2 cb0 cb4 cb5 cb6 cb7 hb2
           clear hW
           go_wp2_with (first
                        | (go_at_call 175;(with_reducible refine (HPN.out _).mono ?_);rintro e w2 ⟨rfl,rfl⟩)
                        | (go_at_call 175;(with_reducible refine (HPV.out _).mono ?_);rintro e w2 ⟨rfl,rfl⟩)
                        | (go_at_call 176;refine (HF.out _).mono ?_;rintro e w2 ⟨rfl,rfl⟩)
                        | (go_at_call 177;refine (HC.out _).mono ?_;rintro e w2 ⟨rfl,hb4⟩;replace ka2:=kept hb4 ka2;replace cb4:=kept hb4 cb4;replace cb5:=kept hb4 cb5;replace cb6:=kept hb4 cb6;replace cb7:=kept hb4 cb7;replace hb2:=below2 hb2 hb4;clear hb4))
           go_ret;exact ⟨aJ HE.out.symm,hb2⟩
         ·have t3:((k.path[0].toNat:Int) != 47)=true:=by rw [bne_iff_ne];exact n8
          have N8:=Lib.hid n8;clear n8;have HE:Hid (gQ k c=false):=by rw [Hid,HI.out];rw [LD n7 N8.out];simp
          exact z7
        ·have t2:=lH n7
         have t2':=nD n7;have HE:Hid (gQ k c=false):=by rw [Hid,HI.out];rw [GK t2];simp
         exact z7
       ·obtain rfl:b3=false:=by simpa using n6
        have HC:=HC0
        exact z133
      ·obtain rfl:b2=false:=by simpa using n5
       have HPV:=UJ
       exact z133
     ·skip
      have HE:Hid (gQ k c=false):=by rw [Hid,HI.out];simp [n4]
      exact z7
    ·skip
     have HE:Hid (gQ k c=false):=by rw [Hid,HI.out];simp [n3]
     exact z14
   ·obtain rfl:b1=false:=by simpa using n2
    have HPN:=UK
    exact z133
  ·skip
   have HE:Hid (gQ k c=false):=by rw [Hid,HI.out];simp [n1]
   exact z14
 ·have t1:=lH n0
  have t1':=nD n0;have HE:Hid (gQ k c=false):=by rw [Hid,HI.out];simp [t1]
  exact z2
structure Ev where
 dot:Dot
 stamp:Stamp
 kind:Int
 key:Key
 ck:Ck
 over:List Dot
 deriving DecidableEq
def dC:Key:=⟨ByteArray.empty,ByteArray.empty,ByteArray.empty⟩
def ck0:Ck:=⟨ByteArray.empty,false,false,false,false,0,0,0⟩
def Dn:Dot:=⟨⟨0,0⟩,0⟩
def uu:Stamp:=⟨0,0,0⟩
def ev0:Ev:=⟨Dn,uu,0,dC,ck0,[]⟩
def kindOk (e:Ev):Bool:=if e.kind=2 then (decide (e.key=dC) && decide (e.ck=ck0)) && decide (0<e.over.length) else if e.kind=1 then gQ e.key e.ck else false
def eF (e:Ev):Bool:=bJ e.dot && (fQ e.stamp && (decide (e.stamp.dev=e.dot.a.dev) && (overOk e.dot e.over && kindOk e)))
/-- an event's texts and lists are short -/
structure EvSmall (e:Ev):Prop where
 name:e.key.name.size≤1073741824
 domain:e.key.domain.size≤1073741824
 path:e.key.path.size≤1073741824
 value:e.ck.value.size≤1073741824
 over:e.over.length≤1073741824
/-- an event's value -/
abbrev Rq (k:Key) (c:Ck):Value:=.agg #[.string k.name,.string k.domain,.string k.path,.string c.value,.bool c.hostOnly,.bool c.secure,.bool c.httpOnly,.bool c.persistent,.int .i64 c.expiry,.int .i64 c.creation,.int .i64 c.access]
abbrev jY (e:Ev) (a:Option Addr) (cap:Nat):Value :=
 .agg #[.int .i64 e.dot.a.dev,.int .i64 e.dot.a.inc,.int .i64 e.dot.seq,.int .i64 e.stamp.wall,.int .i64 e.stamp.count,.int .i64 e.stamp.dev,.int .i64 e.kind,.string e.key.name,.string e.key.domain,.string e.key.path,.string e.ck.value,.bool e.ck.hostOnly,.bool e.ck.secure,.bool e.ck.httpOnly,.bool e.ck.persistent,.int .i64 e.ck.expiry,.int .i64 e.ck.creation,.int .i64 e.ck.access,.slice a e.over.length cap]
theorem QM (e:Ev) (a:Option Addr) (cap:Nat) (w:World) :
 Calls prog 140 #[jY e a cap] w fun x w'=>x=.returned (Rq e.key e.ck)∧Below w.heap.size w w':=by
 go_enter func140,ntmps140;go_wp2;go_returns;exact ⟨rfl,by go_grown⟩
end Go.Proofs.YtepkclldbkhanaaGreat
