/- Package cookie's tests of texts and times, and the reference's. Conditions: texts of at most 2^30 bytes. -/
import Derived.Test.YtepkclldbkhanaaGreatHost
set_option linter.unusedSimpArgs false
set_option linter.unusedVariables false
set_option linter.unnecessarySimpa false
set_option maxHeartbeats 16000000
set_option maxRecDepth 100000
open Go.Proofs.Tryz
namespace Go.Proofs.YtepkclldbkhanaaGreat
open Go.RowKit
/-- a text that is short, without controls, some signs, and blanks at its ends -/
def fH (most:Nat) (signs l:Bytes):Bool:=decide (l.length≤most) && (!control l && (decide (trim l=l) && signs.all fun c=>decide (dU c l=none)))
theorem Sl (c:UInt8) (l:Bytes):(pF c l).2.2 = !decide (dU c l=none):=by
 unfold pF;cases dU c l <;> simp
theorem Jh (n a b:Int) (w:World):Calls prog 172 #[.int .i64 n,.int .i64 a,.int .i64 b] w fun e w'=>e=.returned (.bool (decide (a≤n) && decide (n≤b)))∧w=w':=by
 go_enter func172,ntmps172;go_wp2;all_goals
  go_ret;exact ⟨aJ (by rw [Bool.eq_iff_iff];simp <;> omega),rfl⟩
theorem DV (s:ByteArray) (most:Nat) (A:Nat) (signs:Bytes) (w:World) (hs:s.size≤1073741824) (hm:most≤1073741824) (hn:signs.length≤1000) (hb:BytesAt w A 0 signs) :
 Calls prog 173 #[.string s,.int .i64 most,.slice (some ⟨A,0,none⟩) signs.length signs.length] w fun e w'=>e=.returned (.bool (fH most signs (bl s)))∧Below w.heap.size w w':=by
 have hd:fH most signs (bl s)=(decide (s.size≤most) && (!control (bl s) && (decide (trim (bl s)=bl s) && signs.all fun c=>decide (dU c (bl s)=none)))):=by unfold fH;rw [aH]
 have Bz:=fun (W:World)=>Jc s W (by unfold maxLen;omega);have FD:=fun (W:World)=>QC s W (by unfold maxLen;omega);have hcut:=fun (c:UInt8) (W:World)=>MG s c W hs;have htq:((mkS (trim (bl s))).toList == s.toList)=decide (trim (bl s)=bl s):=by rw [mF,lG]
 by_cases h1:s.size≤most
 ·cases h2:control (bl s) with
  | true =>
    have HE:Hid (fH most signs (bl s)=false):=by rw [Hid,hd,h2];simp
    rw [h2] at Bz;have HC:=Lib.hid Bz;clear hd Bz FD hcut htq;go_enter func173,ntmps173;go_wp2_with (go_at_call 211;refine (HC.out _).mono ?_;rintro e w1 ⟨rfl,rfl⟩)
    go_ret;exact ⟨aJ HE.out.symm,Below.refl _ _⟩
  | false =>
    rw [h2] at Bz hd;have HC:=Lib.hid Bz;by_cases h3:trim (bl s)=bl s
    ·rw [decide_eq_true h3] at htq
     have HL:Hid (fH most signs (bl s)=signs.all fun c=>decide (dU c (bl s)=none)):=by rw [Hid,hd];simp [h1,h3]
     have HT:=Lib.hid FD;have HK:=Lib.hid hcut;clear hd Bz FD hcut h3;have hdm:decide (most<s.size)=false:=by simp;omega
     go_enter func173,ntmps173;go_wp2_with (first | (go_at_call 211;refine (HC.out _).mono ?_;rintro e w1 ⟨rfl,rfl⟩) | (go_at_call 212;refine (HT.out _).mono ?_;rintro e w1 ⟨rfl,rfl⟩))
     go_loopw [8,9,10,11,28] (fun _ _ _ _ i wr=>∃ k:Nat,k≤signs.length∧i=.int .i64 k∧fH most signs (bl s)=((signs.drop k).all fun c=>decide (dU c (bl s)=none))∧Below w.heap.size w wr) (fun _ _ _ _ i _=>signs.length - (intOf i).toNat)
     case atStart=>exact ⟨0,Nat.zero_le _,rfl,HL.out,Below.refl _ _⟩
     case round =>
        obtain ⟨k,hk,rfl,hpre,hbel⟩:=hrel;have HP:=Lib.hid hpre;clear hpre;by_cases hlt:k<signs.length
        ·have hcell:=kept hbel (hb.cell hlt)
         rw [Nat.zero_add] at hcell;have hD:signs.drop k=signs[k] :: signs.drop (k+1):=List.drop_eq_getElem_cons hlt;have hT:Hid (fH most signs (bl s)=(decide (dU signs[k] (bl s)=none) && ((signs.drop (k+1)).all fun c=>decide (dU c (bl s)=none)))):=by rw [Hid,HP.out,hD,List.all_cons]
         have his:=Sl signs[k] (bl s);have hk0:=fun (W:World)=>HK.out signs[k] W;generalize signs[k]=c at *;generalize pF c (bl s)=x at his hk0;obtain ⟨p,q,b⟩:=x;simp only at his hk0;rw [his] at hk0;clear hD HP his;by_cases hf:dU c (bl s)=none
         ·rw [hf] at hT hk0
          have HKK:=Lib.hid hk0;clear hk0 hf;go_wp2_with (go_at_call 213;refine (HKK.out _).mono ?_;rintro e w1 ⟨rfl,hb1⟩)
          go_roundw
          case rel=>exact ⟨k+1,by omega,by go_num,by rw [hT.out];simp,below2 hbel hb1⟩
          case measure => exact z65
         ·rw [decide_eq_false hf] at hT hk0
          have HKK:=Lib.hid hk0;clear hk0 hf;go_wp2_with (go_at_call 213;refine (HKK.out _).mono ?_;rintro e w1 ⟨rfl,hb1⟩)
          go_ret;exact ⟨aJ (by rw [hT.out];rfl),below2 hbel hb1⟩
        ·have HE:Hid (fH most signs (bl s)=true):=by rw [Hid,HP.out,List.drop_eq_nil_of_le (by omega)];rfl
         go_wp2
         exact z158
    ·rw [decide_eq_false h3] at htq
     have HE:Hid (fH most signs (bl s)=false):=by rw [Hid,hd];simp [h3]
     have HT:=Lib.hid FD;clear hd Bz FD hcut h3;go_enter func173,ntmps173;go_wp2_with (first | (go_at_call 211;refine (HC.out _).mono ?_;rintro e w1 ⟨rfl,rfl⟩) | (go_at_call 212;refine (HT.out _).mono ?_;rintro e w1 ⟨rfl,rfl⟩))
     go_ret;exact ⟨aJ HE.out.symm,Below.refl _ _⟩
 ·have HE:Hid (fH most signs (bl s)=false):=by rw [Hid,hd];simp [h1]
  clear hd Bz FD hcut htq;go_enter func173,ntmps173
  exact z52
/-- the reference's test of a text -/
def lZ (l:Bytes):Bool := !control l && (decide (dU 59 l=none) && decide (trim l=l))
theorem Ii (l:Bytes) (c:UInt8):decide (kW l c<0)=decide (dU c l=none):=by
 unfold kW;cases dU c l <;> simp
theorem zO (s:ByteArray) (w:World) (hs:s.size≤1073741824) :
 Calls prog 175 #[.string s] w fun e w'=>e=.returned (.bool (lZ (bl s)))∧w=w':=by
 have Bz:=fun (W:World)=>E5 s W (by unfold maxLen;omega);have FD:=fun (W:World)=>Nk s W (by unfold maxLen;omega);have VA:=fun (W:World)=>DL s 59 W (by unfold maxLen;omega);have htq:((mkS (trim (bl s))).toList == s.toList)=decide (trim (bl s)=bl s):=by rw [mF,lG]
 have hfl:=Ii (bl s) 59;have hd:lZ (bl s)=(!control (bl s) && (decide (dU 59 (bl s)=none) && decide (trim (bl s)=bl s))):=rfl;generalize kW (bl s) 59=fi at *;have HC:=Lib.hid Bz;have HT:=Lib.hid FD;have HF:=Lib.hid VA;clear Bz FD VA
 cases h1:control (bl s) with
 | true =>
   have HE:Hid (lZ (bl s)=false):=by rw [Hid,hd,h1];rfl
   rw [h1] at HC;clear hd htq hfl;go_enter func175,ntmps175;go_wp2_with (go_at_call 214;refine (HC.out _).mono ?_;rintro e w1 ⟨rfl,rfl⟩)
   go_ret;exact ⟨aJ HE.out.symm,rfl⟩
 | false =>
   rw [h1] at HC hd;by_cases h2:fi<0
   ·have h2':dU 59 (bl s)=none:=by simpa [h2] using hfl
    have HE:Hid (lZ (bl s)=decide (trim (bl s)=bl s)):=by rw [Hid,hd,h2'];simp
    have HQ:=Lib.hid htq;clear hd htq hfl h2';go_enter func175,ntmps175;go_wp2_with (first
        | (go_at_call 214;refine (HC.out _).mono ?_;rintro e w1 ⟨rfl,rfl⟩)
        | (go_at_call 176;refine (HF.out _).mono ?_;rintro e w1 ⟨rfl,rfl⟩)
        | (go_at_call 215;refine (HT.out _).mono ?_;rintro e w1 ⟨rfl,rfl⟩))
    go_ret;exact ⟨aJ (by rw [HE.out,← HQ.out]),rfl⟩
   ·have h2':¬ dU 59 (bl s)=none:=by simpa [h2] using hfl
    have HE:Hid (lZ (bl s)=false):=by rw [Hid,hd];simp [h2']
    clear hd htq hfl h2';go_enter func175,ntmps175;go_wp2_with (first
        | (go_at_call 214;refine (HC.out _).mono ?_;rintro e w1 ⟨rfl,rfl⟩)
        | (go_at_call 176;refine (HF.out _).mono ?_;rintro e w1 ⟨rfl,rfl⟩))
    go_ret;exact ⟨aJ HE.out.symm,rfl⟩
end Go.Proofs.YtepkclldbkhanaaGreat
