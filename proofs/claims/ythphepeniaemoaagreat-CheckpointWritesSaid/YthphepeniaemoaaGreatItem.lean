/- Package cookie's tests of texts and times, and the reference's. Conditions: texts of at most 2^30 bytes. -/
import Derived.Test.YthphepeniaemoaaGreatHost
set_option linter.unusedSimpArgs false
set_option linter.unusedVariables false
set_option linter.unnecessarySimpa false
set_option maxHeartbeats 16000000
set_option maxRecDepth 100000
open Go.Proofs.Tryz
namespace Go.Proofs.YthphepeniaemoaaGreat
open Go.RowKit
/-- a text that is short, without controls, some signs, and blanks at its ends -/
def fE (most:Nat) (signs l:Bytes):Bool:=decide (l.length<=most) && (!control l && (decide (trim l=l) && signs.all fun c=>decide (eU c l=none)))
theorem Tt (c:UInt8) (l:Bytes):(pU c l).2.2 = !decide (eU c l=none):=by
 unfold pU;cases eU c l <;> simp
theorem JC (n a b:Int) (w:World):Calls prog 154 #[.int .i64 n,.int .i64 a,.int .i64 b] w fun e w'=>e=.returned (.bool (decide (a<=n) && decide (n<=b)))/\w=w':=by
 go_enter func154,ntmps154;go_wp2;all_goals
  go_ret;exact ⟨aH (by rw [Bool.eq_iff_iff];simp <;> omega),rfl⟩
theorem En (s:ByteArray) (most:Nat) (A:Nat) (signs:Bytes) (w:World) (hs:s.size<=1073741824) (hm:most<=1073741824) (hn:signs.length<=1000) (hb:BytesAt w A 0 signs) :
 Calls prog 155 #[.string s,.int .i64 most,.slice (some ⟨A,0,none⟩) signs.length signs.length] w fun e w'=>e=.returned (.bool (fE most signs (bl s)))/\Below w.heap.size w w':=by
 have hd:fE most signs (bl s)=(decide (s.size<=most) && (!control (bl s) && (decide (trim (bl s)=bl s) && signs.all fun c=>decide (eU c (bl s)=none)))):=by unfold fE;rw [aB]
 have BX:=fun (W:World)=>Jv s W (by unfold maxLen;omega);have FY:=fun (W:World)=>Rf s W (by unfold maxLen;omega);have hcut:=fun (c:UInt8) (W:World)=>Na s c W hs;have htq:((mkS (trim (bl s))).toList == s.toList)=decide (trim (bl s)=bl s):=by rw [qH,mJ]
 by_cases h1:s.size<=most
 ·cases h2:control (bl s) with
  | true =>
    have HE:Hid (fE most signs (bl s)=false):=by rw [Hid,hd,h2];simp
    rw [h2] at BX;have HC:=aq BX;clear hd BX FY hcut htq;go_enter func155,ntmps155;go_wp2_with (go_at_call 196;refine (HC.out _).mono ?_;rintro e w1 ⟨rfl,rfl⟩)
    go_ret;exact ⟨aH HE.out.symm,bh _ _⟩
  | false =>
    rw [h2] at BX hd;have HC:=aq BX;by_cases h3:trim (bl s)=bl s
    ·rw [aR h3] at htq
     have HL:Hid (fE most signs (bl s)=signs.all fun c=>decide (eU c (bl s)=none)):=by rw [Hid,hd];simp [h1,h3]
     have HT:=aq FY;have HK:=aq hcut;clear hd BX FY hcut h3;have hdm:decide (most<s.size)=false:=by simp;omega
     go_enter func155,ntmps155;go_wp2_with (first | (go_at_call 196;refine (HC.out _).mono ?_;rintro e w1 ⟨rfl,rfl⟩) | (go_at_call 197;refine (HT.out _).mono ?_;rintro e w1 ⟨rfl,rfl⟩))
     go_loopw [8,9,10,11,28] (fun _ _ _ _ i wr=>∃ k:Nat,k<=signs.length/\i=.int .i64 k/\fE most signs (bl s)=((signs.drop k).all fun c=>decide (eU c (bl s)=none))/\Below w.heap.size w wr) (fun _ _ _ _ i _=>signs.length - (intOf i).toNat)
     case atStart=>exact ⟨0,Nat.zero_le _,rfl,HL.out,bh _ _⟩
     case round =>
        obtain ⟨k,hk,rfl,hpre,hbel⟩:=hrel;have HP:=aq hpre;clear hpre;by_cases hlt:k<signs.length
        ·have hcell:=kept hbel (hb.cell hlt)
         rw [aw] at hcell;have hD:signs.drop k=signs[k] :: signs.drop (k+1):=List.drop_eq_getElem_cons hlt;have hT:Hid (fE most signs (bl s)=(decide (eU signs[k] (bl s)=none) && ((signs.drop (k+1)).all fun c=>decide (eU c (bl s)=none)))):=by rw [Hid,HP.out,hD,List.all_cons]
         have his:=Tt signs[k] (bl s);have hk0:=fun (W:World)=>HK.out signs[k] W;generalize signs[k]=c at *;generalize pU c (bl s)=x at his hk0;obtain ⟨p,q,b⟩:=x;simp only at his hk0;rw [his] at hk0;clear hD HP his;by_cases hf:eU c (bl s)=none
         ·rw [hf] at hT hk0
          have HKK:=aq hk0;clear hk0 hf;go_wp2_with (go_at_call 198;refine (HKK.out _).mono ?_;rintro e w1 ⟨rfl,hb1⟩)
          go_roundw
          case rel=>exact ⟨k+1,by omega,by go_num,by rw [hT.out];simp,below2 hbel hb1⟩
          case measure => exact z67
         ·rw [aM hf] at hT hk0
          have HKK:=aq hk0;clear hk0 hf;go_wp2_with (go_at_call 198;refine (HKK.out _).mono ?_;rintro e w1 ⟨rfl,hb1⟩)
          go_ret;exact ⟨aH (by rw [hT.out];rfl),below2 hbel hb1⟩
        ·have HE:Hid (fE most signs (bl s)=true):=by rw [Hid,HP.out,List.drop_eq_nil_of_le (by omega)];rfl
         go_wp2
         exact z148
    ·rw [aM h3] at htq
     have HE:Hid (fE most signs (bl s)=false):=by rw [Hid,hd];simp [h3]
     have HT:=aq FY;clear hd BX FY hcut h3;go_enter func155,ntmps155;go_wp2_with (first | (go_at_call 196;refine (HC.out _).mono ?_;rintro e w1 ⟨rfl,rfl⟩) | (go_at_call 197;refine (HT.out _).mono ?_;rintro e w1 ⟨rfl,rfl⟩))
     go_ret;exact ⟨aH HE.out.symm,bh _ _⟩
 ·have HE:Hid (fE most signs (bl s)=false):=by rw [Hid,hd];simp [h1]
  clear hd BX FY hcut htq;go_enter func155,ntmps155
  exact z59
/-- the reference's test of a text -/
def mi (l:Bytes):Bool := !control l && (decide (eU 59 l=none) && decide (trim l=l))
theorem IV (l:Bytes) (c:UInt8):decide (kU l c<0)=decide (eU c l=none):=by
 unfold kU;cases eU c l <;> simp
theorem Au (s:ByteArray) (w:World) (hs:s.size<=1073741824) :
 Calls prog 200 #[.string s] w fun e w'=>e=.returned (.bool (mi (bl s)))/\w=w':=by
 have BX:=fun (W:World)=>FN s W (by unfold maxLen;omega);have FY:=fun (W:World)=>ND s W (by unfold maxLen;omega);have VV:=fun (W:World)=>Eh s 59 W (by unfold maxLen;omega);have htq:((mkS (trim (bl s))).toList == s.toList)=decide (trim (bl s)=bl s):=by rw [qH,mJ]
 have hfl:=IV (bl s) 59;have hd:mi (bl s)=(!control (bl s) && (decide (eU 59 (bl s)=none) && decide (trim (bl s)=bl s))):=rfl;generalize kU (bl s) 59=fi at *;have HC:=aq BX;have HT:=aq FY;have HF:=aq VV;clear BX FY VV
 cases h1:control (bl s) with
 | true =>
   have HE:Hid (mi (bl s)=false):=by rw [Hid,hd,h1];rfl
   rw [h1] at HC;clear hd htq hfl;go_enter func200,ntmps200;go_wp2_with (go_at_call 244;refine (HC.out _).mono ?_;rintro e w1 ⟨rfl,rfl⟩)
   go_ret;exact ⟨aH HE.out.symm,rfl⟩
 | false =>
   rw [h1] at HC hd;by_cases h2:fi<0
   ·have h2':eU 59 (bl s)=none:=by simpa [h2] using hfl
    have HE:Hid (mi (bl s)=decide (trim (bl s)=bl s)):=by rw [Hid,hd,h2'];simp
    have HQ:=aq htq;clear hd htq hfl h2';go_enter func200,ntmps200;go_wp2_with (first
        | (go_at_call 244;refine (HC.out _).mono ?_;rintro e w1 ⟨rfl,rfl⟩)
        | (go_at_call 201;refine (HF.out _).mono ?_;rintro e w1 ⟨rfl,rfl⟩)
        | (go_at_call 245;refine (HT.out _).mono ?_;rintro e w1 ⟨rfl,rfl⟩))
    go_ret;exact ⟨aH (by rw [HE.out,<- HQ.out]),rfl⟩
   ·have h2':¬ eU 59 (bl s)=none:=by simpa [h2] using hfl
    have HE:Hid (mi (bl s)=false):=by rw [Hid,hd];simp [h2']
    clear hd htq hfl h2';go_enter func200,ntmps200;go_wp2_with (first
        | (go_at_call 244;refine (HC.out _).mono ?_;rintro e w1 ⟨rfl,rfl⟩)
        | (go_at_call 201;refine (HF.out _).mono ?_;rintro e w1 ⟨rfl,rfl⟩))
    go_ret;exact ⟨aH HE.out.symm,rfl⟩
def oZ (c:Ck):Bool:=(decide (-1099511627776<=c.expiry) && decide (c.expiry<=1099511627776)) && ((decide (0<=c.creation) && decide (c.creation<=1099511627776)) && ((decide (0<=c.access) && decide (c.access<=1099511627776)) && (c.persistent || decide (c.expiry=1099511627776))))
def kL (l:Bytes):Bool:=decide (0<l.length) && ((l.head?.any fun x=>decide (x.toNat=47)) && decide (l.length<=256))
def gq (k:Key) (c:Ck):Bool:=decide (0<k.name.size) && (fE 256 [59,61] (bl k.name) && (fE 1024 [59] (bl c.value) && (gm (bl k.domain) && (kL (bl k.path) && oZ c))))
abbrev uC (c:Ck):List Value:=[.string c.value,.bool c.hostOnly,.bool c.secure,.bool c.httpOnly,.bool c.persistent,.int .i64 c.expiry,.int .i64 c.creation,.int .i64 c.access]
theorem Ak (s:ByteArray):decide (0<s.size)=decide (¬ s.toList=[]):=by
 by_cases h:0<s.size
 ·simp [h,mg h]
 ·simp only [h,lJ h,not_true_eq_false]
theorem Hu {s:ByteArray} (h:s.toList=[]):kL (bl s)=false:=by
 unfold kL;rw [aB,Ak];simp [h]
theorem MF {s:ByteArray} (h:0<s.size) (h2:¬ (s[0].toNat:Int)=47):kL (bl s)=false:=by
 unfold kL;rw [uu s h];simp only [Option.any_some];rw [aM (show ¬ s[0].toNat=47 by omega)];simp
theorem Hw {s:ByteArray} (h:256<(s.size:Int)):kL (bl s)=false:=by
 unfold kL;rw [aB,aM (show ¬ s.size<=256 by omega)];simp
theorem Ht {s:ByteArray} (h:0<s.size) (h2:(s[0].toNat:Int)=47) (h3:(s.size:Int)<=256):kL (bl s)=true:=by
 unfold kL;rw [uu s h,aB];simp only [Option.any_some];rw [aR h,aR (show s[0].toNat=47 by omega),aR (show s.size<=256 by omega)];rfl
/-- in block b lie a key's cells, a cookie's -/
structure KeyAt (w:World) (b:Nat) (k:Key):Prop where
 c0:w.cell? ⟨b,0,none⟩=some (.string k.name)
 c1:w.cell? ⟨b,1,none⟩=some (.string k.domain)
 c2:w.cell? ⟨b,2,none⟩=some (.string k.path)
structure CkAt (w:World) (b:Nat) (c:Ck):Prop where
 c0:w.cell? ⟨b,0,none⟩=some (.string c.value)
 c1:w.cell? ⟨b,1,none⟩=some (.bool c.hostOnly)
 c2:w.cell? ⟨b,2,none⟩=some (.bool c.secure)
 c3:w.cell? ⟨b,3,none⟩=some (.bool c.httpOnly)
 c4:w.cell? ⟨b,4,none⟩=some (.bool c.persistent)
 c5:w.cell? ⟨b,5,none⟩=some (.int .i64 c.expiry)
 c6:w.cell? ⟨b,6,none⟩=some (.int .i64 c.creation)
 c7:w.cell? ⟨b,7,none⟩=some (.int .i64 c.access)
theorem KeyAt.kept {w w':World} {b:Nat} {k:Key} (h:KeyAt w b k) (hb:Below w.heap.size w w'):KeyAt w' b k:=⟨YthphepeniaemoaaGreat.kept hb h.c0,YthphepeniaemoaaGreat.kept hb h.c1,YthphepeniaemoaaGreat.kept hb h.c2⟩
theorem CkAt.kept {w w':World} {b:Nat} {k:Ck} (h:CkAt w b k) (hb:Below w.heap.size w w'):CkAt w' b k :=
 ⟨YthphepeniaemoaaGreat.kept hb h.c0,YthphepeniaemoaaGreat.kept hb h.c1,YthphepeniaemoaaGreat.kept hb h.c2,YthphepeniaemoaaGreat.kept hb h.c3,YthphepeniaemoaaGreat.kept hb h.c4,YthphepeniaemoaaGreat.kept hb h.c5,YthphepeniaemoaaGreat.kept hb h.c6,YthphepeniaemoaaGreat.kept hb h.c7⟩
theorem U6 (w:World) (t:TypeId):BytesAt (w.alloc (Obj.cells #[.int .u8 59,.int .u8 61] t)) w.heap.size 0 [59,61]:=by
 intro j hj;match j,hj with
 | 0,_=>simp [World.cell?_alloc_new]
 | 1,_=>simp [World.cell?_alloc_new]
theorem U7 (w:World) (t:TypeId):BytesAt (w.alloc (Obj.cells #[.int .u8 59] t)) w.heap.size 0 [59]:=by
 intro j hj;match j,hj with
 | 0,_=>simp [World.cell?_alloc_new]
theorem DY (k:Key) (c:Ck) (p:Bool) (hp:Hid (c.persistent=p)) (w:World) (h1:k.name.size<=1073741824) (h2:k.domain.size<=1073741824) (h3:k.path.size<=1073741824) (h4:c.value.size<=1073741824) :
 Calls prog 108 #[.agg #[.string k.name,.string k.domain,.string k.path,.string c.value,.bool c.hostOnly,.bool c.secure,.bool c.httpOnly,.bool p,.int .i64 c.expiry,.int .i64 c.creation,.int .i64 c.access]] w fun e w'=>e=.returned (.bool (gq k c))/\Below w.heap.size w w':=by
 cases p
 all_goals
  go_enter func108,ntmps108;go_upto_region 1 with fail
  go_cut [3,4] (fun v3 v4 wx=>∃ a b,v3=.pointer (some ⟨a,0,none⟩)/\v4=.pointer (some ⟨b,0,none⟩)/\KeyAt wx a k/\CkAt wx b c/\Below w.heap.size w wx)
  case first =>
   go_region
   all_goals
        go_wp2;go_meet;refine ⟨_,_,rfl,rfl,⟨?_,?_,?_⟩,⟨?_,?_,?_,?_,?_,?_,?_,?_⟩,?_⟩;all_goals first | (go_simp;done) | (go_grown;done) | (rw [hp.out];go_simp;done)
  case rest =>
   obtain ⟨a,b,rfl,rfl,hka,hcb,hbel⟩:=hcut;have hcan:=fun (W:World)=>Po k.domain W h2;have hI:gq k c=(decide (¬ k.name.toList=[]) && (fE 256 [59,61] (bl k.name) && (fE 1024 [59] (bl c.value) && ((decide (rC (bl k.domain)=0) && decide (oO (bl k.domain)=bl k.domain)) && (kL (bl k.path) && oZ c))))):=by unfold gq;rw [OX,Ak]
   have hTq:((mkS (oO (bl k.domain))).toList == k.domain.toList)=decide (oO (bl k.domain)=bl k.domain):=by rw [qH,mJ]
   generalize rC (bl k.domain)=ce at *;generalize oO (bl k.domain)=ct at *;have HC:=aq hcan;have HI:=aq hI;clear hcan hI;obtain ⟨ka0,ka1,ka2⟩:=hka;obtain ⟨cb0,cb1,cb2,cb3,cb4,cb5,cb6,cb7⟩:=hcb;rw [hp.out] at cb4;have hP1:∀ (A:Nat) (W:World),BytesAt W A 0 [59,61]->Calls prog 155 #[.string k.name,.int .i64 256,.slice (some ⟨A,0,none⟩) 2 2] W fun e w'=>e=.returned (.bool (fE 256 [59,61] (bl k.name)))/\Below W.heap.size W w':=fun A W hb=>En k.name 256 A [59,61] W h1 (by omega) (by simp) hb;have hP2:∀ (A:Nat) (W:World),BytesAt W A 0 [59]->Calls prog 155 #[.string c.value,.int .i64 1024,.slice (some ⟨A,0,none⟩) 1 1] W fun e w'=>e=.returned (.bool (fE 1024 [59] (bl c.value)))/\Below W.heap.size W w':=fun A W hb=>En c.value 1024 A [59] W h4 (by omega) (by simp) hb;have HP1:=aq hP1;have HP2:=aq hP2;clear hP1 hP2;go_upto_region 3 with (go_at_call 153;refine (HC.out _).mono ?_;rintro e w1 ⟨rfl,hb1⟩;replace ka0:=kept hb1 ka0;replace ka1:=kept hb1 ka1;replace ka2:=kept hb1 ka2;replace cb0:=kept hb1 cb0;replace cb4:=kept hb1 cb4;replace cb5:=kept hb1 cb5;replace cb6:=kept hb1 cb6;replace cb7:=kept hb1 cb7)
   go_cut [7] (fun v7 wx=>v7=.bool (oZ c)/\wx=w1)
   case first =>
        go_wp2_with (go_at_call 154;refine (JC _ _ _ _).mono ?_;rintro e w2 ⟨rfl,rfl⟩)
        all_goals
         go_meet;exact ⟨congrArg Value.bool (by unfold oZ;rw [hp.out,Bool.eq_iff_iff];simp [*] <;> omega),rfl⟩
   case rest =>
        obtain ⟨rfl,rfl⟩:=hcut;have hb2:=below2 hbel hb1;go_wp2_with (first
         | (go_at_call 155;(with_reducible refine (HP1.out _ _ (U6 _ _)).mono ?_);rintro e w2 ⟨rfl,hb3⟩;have hb4:=below2 ((bh _ _).alloc (ar _) _) hb3;replace ka0:=kept hb4 ka0;replace ka1:=kept hb4 ka1;replace ka2:=kept hb4 ka2;replace cb0:=kept hb4 cb0;replace hb2:=below2 hb2 hb4;clear hb3 hb4)
         | (go_at_call 155;(with_reducible refine (HP2.out _ _ (U7 _ _)).mono ?_);rintro e w2 ⟨rfl,hb3⟩;have hb4:=below2 ((bh _ _).alloc (ar _) _) hb3;replace ka0:=kept hb4 ka0;replace ka1:=kept hb4 ka1;replace ka2:=kept hb4 ka2;replace cb0:=kept hb4 cb0;replace hb2:=below2 hb2 hb4;clear hb3 hb4))
        all_goals first
         | (go_ret;exact ⟨aH (by rw [HI.out];first | (simp [*];done) | (rw [Hu ‹_›];simp;done) | (rw [MF ‹_› ‹_›];simp;done) | (rw [Hw ‹_›];simp;done) | (rw [Ht ‹_› ‹_› ‹_›];simp [*];done)),hb2⟩)
         | exact absurd (lJ ‹¬ 0<k.path.size›) ‹_›
theorem z130 {p : Prop} (h : p := by
 unfold fE mi
 simp only [List.all_cons, List.all_nil, Bool.and_true]
 cases control l <;> cases decide (trim l = l) <;> simp [Bool.and_comm]) : p := h
theorem FP (l:Bytes):fE 256 [59,61] l=(decide (l.length<=256) && (mi l && decide (eU 61 l=none))):=by
 exact z130
theorem DC (l:Bytes):fE 1024 [59] l=(decide (l.length<=1024) && mi l):=by
 exact z130
theorem KE (k:Key) (c:Ck):gq k c=(decide (¬ k.name.toList=[]) && (decide ((k.name.size:Int)<=256) && (mi (bl k.name) && (decide (kU (bl k.name) 61<0) && (decide ((c.value.size:Int)<=1024) && (mi (bl c.value) && (gm (bl k.domain) && (kL (bl k.path) && oZ c)))))))):=by
 unfold gq;rw [Ak,FP,DC,aB,aB,IV];rw [show decide ((k.name.size:Int)<=256)=decide (k.name.size<=256) by rw [Bool.eq_iff_iff];simp;omega];rw [show decide ((c.value.size:Int)<=1024)=decide (c.value.size<=1024) by rw [Bool.eq_iff_iff];simp;omega];simp only [Bool.and_assoc]
theorem y64 {p q : Prop} (k : q) (h : PLift q -> p := by
 intro kk
 have cb5 : W.cell? ⟨w.heap.size + 2, 5, none⟩ = some (.int .i64 c.expiry) := by rw [hW.out]; go_simp
 have cb6 : W.cell? ⟨w.heap.size + 2, 6, none⟩ = some (.int .i64 c.creation) := by rw [hW.out]; go_simp
 have cb7 : W.cell? ⟨w.heap.size + 2, 7, none⟩ = some (.int .i64 c.access) := by rw [hW.out]; go_simp
 have hb2 : Below w.heap.size w W := by rw [hW.out]; go_grown
 revert cb5 cb6 cb7 hb2
 exact kk.down) : p := h ⟨k⟩
theorem z28 {p : Prop} (h : p := by
 refine y64 ?_
 intro cb5 cb6 cb7 hb2
 clear hW
 go_wp2_with (first
      | (go_at_call 200; (with_reducible refine (HPN.out _).mono ?_); rintro e w2 ⟨rfl, rfl⟩)
      | (go_at_call 200; (with_reducible refine (HPV.out _).mono ?_); rintro e w2 ⟨rfl, rfl⟩)
      | (go_at_call 201; refine (HF.out _).mono ?_; rintro e w2 ⟨rfl, rfl⟩)
      | (go_at_call 202; refine (HC.out _).mono ?_; rintro e w2 ⟨rfl, hb4⟩; replace ka2 := kept hb4 ka2; replace cb4 := kept hb4 cb4; replace cb5 := kept hb4 cb5; replace cb6 := kept hb4 cb6; replace cb7 := kept hb4 cb7; replace hb2 := below2 hb2 hb4; clear hb4))
 all_goals
      go_ret
      exact ⟨aH (by rw [HE.out]; unfold oZ; rw [hp.out, Bool.eq_iff_iff]; simp [*] <;> omega), hb2⟩) : p := h
theorem y61 {p q : Prop} (k : q) (h : PLift q -> p := by
 intro kk
 refine aI (fun W hW => ?_)
 have ka0 : W.cell? ⟨w.heap.size + 1, 0, none⟩ = some (.string k.name) := by rw [hW.out]; go_simp
 have ka1 : W.cell? ⟨w.heap.size + 1, 1, none⟩ = some (.string k.domain) := by rw [hW.out]; go_simp
 have ka2 : W.cell? ⟨w.heap.size + 1, 2, none⟩ = some (.string k.path) := by rw [hW.out]; go_simp
 have cb0 : W.cell? ⟨w.heap.size + 2, 0, none⟩ = some (.string c.value) := by rw [hW.out]; go_simp
 revert W hW ka0 ka1 ka2 cb0
 exact kk.down) : p := h ⟨k⟩
theorem y6 {p q : Prop} (k : q) (h : PLift q -> p := by
 intro kk
 refine y61 ?_
 intro W hW ka0 ka1 ka2 cb0
 have cb4 : W.cell? ⟨w.heap.size + 2, 4, none⟩ = some (.bool p) := by rw [hW.out]; go_simp
 refine y64 ?_
 intro cb5 cb6 cb7 hb2
 revert W hW ka0 ka1 ka2 cb0 cb4 cb5 cb6 cb7 hb2
 exact kk.down) : p := h ⟨k⟩
theorem z20 {p : Prop} (h : p := by
 clear HI
 go_enter func159, ntmps159
 go_upto_region 4 with fail
 refine y6 ?_
 intro W hW ka0 ka1 ka2 cb0 cb4 cb5 cb6 cb7 hb2
 clear hW
 go_wp2_with (first
      | (go_at_call 200; (with_reducible refine (HPN.out _).mono ?_); rintro e w2 ⟨rfl, rfl⟩)
      | (go_at_call 200; (with_reducible refine (HPV.out _).mono ?_); rintro e w2 ⟨rfl, rfl⟩)
      | (go_at_call 201; refine (HF.out _).mono ?_; rintro e w2 ⟨rfl, rfl⟩)
      | (go_at_call 202; refine (HC.out _).mono ?_; rintro e w2 ⟨rfl, hb4⟩; replace ka2 := kept hb4 ka2; replace cb4 := kept hb4 cb4; replace cb5 := kept hb4 cb5; replace cb6 := kept hb4 cb6; replace cb7 := kept hb4 cb7; replace hb2 := below2 hb2 hb4; clear hb4))
 go_ret
 exact ⟨aH HE.out.symm, hb2⟩) : p := h
theorem z10 {p : Prop} (h : p := by
 clear HI
 go_enter func159, ntmps159
 go_upto_region 4 with fail
 refine y6 ?_
 intro W hW ka0 ka1 ka2 cb0 cb4 cb5 cb6 cb7 hb2
 clear hW
 go_wp2_with (first
     | (go_at_call 200; (with_reducible refine (HPN.out _).mono ?_); rintro e w2 ⟨rfl, rfl⟩)
     | (go_at_call 200; (with_reducible refine (HPV.out _).mono ?_); rintro e w2 ⟨rfl, rfl⟩)
     | (go_at_call 201; refine (HF.out _).mono ?_; rintro e w2 ⟨rfl, rfl⟩)
     | (go_at_call 202; refine (HC.out _).mono ?_; rintro e w2 ⟨rfl, hb4⟩; replace ka2 := kept hb4 ka2; replace cb4 := kept hb4 cb4; replace cb5 := kept hb4 cb5; replace cb6 := kept hb4 cb6; replace cb7 := kept hb4 cb7; replace hb2 := below2 hb2 hb4; clear hb4))
 go_ret
 exact ⟨aH HE.out.symm, hb2⟩) : p := h
theorem z3 {p : Prop} (h : p := by
 clear HI
 go_enter func159, ntmps159
 go_upto_region 4 with fail
 refine y6 ?_
 intro W hW ka0 ka1 ka2 cb0 cb4 cb5 cb6 cb7 hb2
 clear hW
 go_wp2_with (first
  | (go_at_call 200; (with_reducible refine (HPN.out _).mono ?_); rintro e w2 ⟨rfl, rfl⟩)
  | (go_at_call 200; (with_reducible refine (HPV.out _).mono ?_); rintro e w2 ⟨rfl, rfl⟩)
  | (go_at_call 201; refine (HF.out _).mono ?_; rintro e w2 ⟨rfl, rfl⟩)
  | (go_at_call 202; refine (HC.out _).mono ?_; rintro e w2 ⟨rfl, hb4⟩; replace ka2 := kept hb4 ka2; replace cb4 := kept hb4 cb4; replace cb5 := kept hb4 cb5; replace cb6 := kept hb4 cb6; replace cb7 := kept hb4 cb7; replace hb2 := below2 hb2 hb4; clear hb4))
 go_ret
 exact ⟨aH HE.out.symm, hb2⟩) : p := h
theorem z128 {p : Prop} (h : p := by
 have HE : Hid (gq k c = false) := by rw [Hid, HI.out]; simp
 exact z3) : p := h
theorem FM (k:Key) (c:Ck) (p:Bool) (hp:Hid (c.persistent=p)) (w:World) (h1:k.name.size<=1073741824) (h2:k.domain.size<=1073741824) (h4:c.value.size<=1073741824) :
 Calls prog 159 #[.agg #[.string k.name,.string k.domain,.string k.path,.string c.value,.bool c.hostOnly,.bool c.secure,.bool c.httpOnly,.bool p,.int .i64 c.expiry,.int .i64 c.creation,.int .i64 c.access]] w fun e w'=>e=.returned (.bool (gq k c))/\Below w.heap.size w w':=by
 have HI:=aq (KE k c);have Vm:=aq (fun (W:World)=>Au k.name W h1);have Vl:=aq (fun (W:World)=>Au c.value W h4);have HF:=aq (fun (W:World)=>Eh k.name 61 W (by unfold maxLen;omega));have HC0:=aq (fun (W:World)=>AX k.domain W h2);generalize mi (bl k.name)=b1 at HI Vm;generalize mi (bl c.value)=b2 at HI Vl;generalize gm (bl k.domain)=b3 at HI HC0;generalize kU (bl k.name) 61=fi at HI HF;by_cases n0:0<k.name.size
 ·have t1:=mg n0
  have t1':=lK n0;by_cases n1:(k.name.size:Int)<=256
  ·skip
   by_cases n2:b1=true
   ·subst n2
    have HPN:=Vm;by_cases n3:fi<0
    ·skip
     by_cases n4:(c.value.size:Int)<=1024
     ·skip
      by_cases n5:b2=true
      ·subst n5
       have HPV:=Vl;by_cases n6:b3=true
       ·subst n6
        have HC:=HC0;by_cases n7:0<k.path.size
        ·have t2:=mg n7
         have t2':=lK n7;by_cases n8:(k.path[0].toNat:Int)=47
         ·have t3:((k.path[0].toNat:Int) != 47)=false:=by rw [bne_eq_false_iff_eq];exact n8
          have N8:=aq n8;clear n8;by_cases n9:(k.path.size:Int)<=256
          ·skip
           have HE:Hid (gq k c=oZ c):=by rw [Hid,HI.out,Ht n7 N8.out n9];simp [t1,n1,n3,n4]
           clear HI
           cases p
           ·go_enter func159,ntmps159
            go_upto_region 4 with fail
            refine y61 ?_
            intro W hW ka0 ka1 ka2 cb0
            have cb4:W.cell? ⟨w.heap.size+2,4,none⟩=some (.bool false):=by rw [hW.out];go_simp
            exact z28
           ·go_enter func159,ntmps159
            go_upto_region 4 with fail
            refine y61 ?_
            intro W hW ka0 ka1 ka2 cb0
            have cb4:W.cell? ⟨w.heap.size+2,4,none⟩=some (.bool true):=by rw [hW.out];go_simp
            exact z28
          ·skip
           have HE:Hid (gq k c=false):=by rw [Hid,HI.out];rw [Hw (by omega:256<(k.path.size:Int))];simp
           clear HI;go_enter func159,ntmps159;go_upto_region 4 with fail
           refine y6 ?_
           intro W hW ka0 ka1 ka2 cb0 cb4 cb5 cb6 cb7 hb2
           clear hW
           go_wp2_with (first
                        | (go_at_call 200;(with_reducible refine (HPN.out _).mono ?_);rintro e w2 ⟨rfl,rfl⟩)
                        | (go_at_call 200;(with_reducible refine (HPV.out _).mono ?_);rintro e w2 ⟨rfl,rfl⟩)
                        | (go_at_call 201;refine (HF.out _).mono ?_;rintro e w2 ⟨rfl,rfl⟩)
                        | (go_at_call 202;refine (HC.out _).mono ?_;rintro e w2 ⟨rfl,hb4⟩;replace ka2:=kept hb4 ka2;replace cb4:=kept hb4 cb4;replace cb5:=kept hb4 cb5;replace cb6:=kept hb4 cb6;replace cb7:=kept hb4 cb7;replace hb2:=below2 hb2 hb4;clear hb4))
           go_ret;exact ⟨aH HE.out.symm,hb2⟩
         ·have t3:((k.path[0].toNat:Int) != 47)=true:=by rw [bne_iff_ne];exact n8
          have N8:=aq n8;clear n8;have HE:Hid (gq k c=false):=by rw [Hid,HI.out];rw [MF n7 N8.out];simp
          exact z10
        ·have t2:=lJ n7
         have t2':=nV n7;have HE:Hid (gq k c=false):=by rw [Hid,HI.out];rw [Hu t2];simp
         exact z10
       ·obtain rfl:b3=false:=by simpa using n6
        have HC:=HC0
        exact z128
      ·obtain rfl:b2=false:=by simpa using n5
       have HPV:=Vl
       exact z128
     ·skip
      have HE:Hid (gq k c=false):=by rw [Hid,HI.out];simp [n4]
      exact z10
    ·skip
     have HE:Hid (gq k c=false):=by rw [Hid,HI.out];simp [n3]
     exact z20
   ·obtain rfl:b1=false:=by simpa using n2
    have HPN:=Vm
    exact z128
  ·skip
   have HE:Hid (gq k c=false):=by rw [Hid,HI.out];simp [n1]
   exact z20
 ·have t1:=lJ n0
  have t1':=nV n0;have HE:Hid (gq k c=false):=by rw [Hid,HI.out];simp [t1]
  exact z3
end Go.Proofs.YthphepeniaemoaaGreat
