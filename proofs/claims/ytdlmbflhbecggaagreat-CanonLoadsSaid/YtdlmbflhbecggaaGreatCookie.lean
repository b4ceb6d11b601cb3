/- Package cookie's tests of texts and times, and the reference's. Conditions: texts of at most 2^30 bytes. -/
import Derived.Test.YtdlmbflhbecggaaGreatHost
set_option linter.unusedSimpArgs false
set_option linter.unusedVariables false
set_option linter.unnecessarySimpa false
set_option maxHeartbeats 16000000
set_option maxRecDepth 100000
namespace Go.Proofs.YtdlmbflhbecggaaGreat
open Go.RowKit
/-- a text that is short, without controls, some signs, and blanks at its ends -/
def eu (most : Nat) (signs l : Bytes) : Bool := decide (l.length ≤ most) && (!control l && (decide (trim l = l) && signs.all fun c => decide (dR c l = none)))
theorem ML (c : UInt8) (l : Bytes) : (nR c l).2.2 = !decide (dR c l = none) := by
 unfold nR; cases dR c l <;> simp
theorem EO (n a b : Int) (w : World) : Calls Tryz.prog 154 #[.int .i64 n, .int .i64 a, .int .i64 b] w fun e w' => e = .returned (.bool (decide (a ≤ n) && decide (n ≤ b))) ∧ w = w' := by
 go_enter Tryz.func154, Tryz.ntmps154
 go_wp2
 all_goals
  go_ret
  exact ⟨ah (by rw [Bool.eq_iff_iff]; simp <;> omega), rfl⟩
theorem Ac (s : ByteArray) (most : Nat) (A : Nat) (signs : Bytes) (w : World) (hs : s.size ≤ 1073741824) (hm : most ≤ 1073741824) (hn : signs.length ≤ 1000) (hb : BytesAt w A 0 signs) :
 Calls Tryz.prog 155 #[.string s, .int .i64 most, .slice (some ⟨A, 0, none⟩) signs.length signs.length] w fun e w' => e = .returned (.bool (eu most signs (bl s))) ∧ Below w.heap.size w w' := by
 have hd : eu most signs (bl s) = (decide (s.size ≤ most) && (!control (bl s) && (decide (trim (bl s) = bl s) && signs.all fun c => decide (dR c (bl s) = none)))) := by unfold eu; rw [aH]
 have yM := fun (W : World) => EM s W (by unfold maxLen; omega)
 have BP := fun (W : World) => Lc s W (by unfold maxLen; omega)
 have hcut := fun (c : UInt8) (W : World) => Hr s c W hs
 have htq : ((mkS (trim (bl s))).toList == s.toList) = decide (trim (bl s) = bl s) := by rw [lI, kP]
 by_cases h1 : s.size ≤ most
 ·cases h2 : control (bl s) with
  | true =>
    have HE : Hid (eu most signs (bl s) = false) := by rw [Hid, hd, h2]; simp
    rw [h2] at yM
    have HC := Lib.hid yM
    clear hd yM BP hcut htq
    go_enter Tryz.func155, Tryz.ntmps155
    go_wp2_with (go_at_call 184; refine (HC.out _).mono ?_; rintro e w1 ⟨rfl, rfl⟩)
    go_ret
    exact ⟨ah HE.out.symm, Below.refl _ _⟩
  | false =>
    rw [h2] at yM hd
    have HC := Lib.hid yM
    by_cases h3 : trim (bl s) = bl s
    ·rw [decide_eq_true h3] at htq
     have HL : Hid (eu most signs (bl s) = signs.all fun c => decide (dR c (bl s) = none)) := by rw [Hid, hd]; simp [h1, h3]
     have HT := Lib.hid BP
     have HK := Lib.hid hcut
     clear hd yM BP hcut h3
     have hdm : decide (most < s.size) = false := by simp; omega
     go_enter Tryz.func155, Tryz.ntmps155
     go_wp2_with (first | (go_at_call 184; refine (HC.out _).mono ?_; rintro e w1 ⟨rfl, rfl⟩) | (go_at_call 185; refine (HT.out _).mono ?_; rintro e w1 ⟨rfl, rfl⟩))
     go_loopw [8, 9, 10, 11, 28] (fun _ _ _ _ i wr => ∃ k : Nat, k ≤ signs.length ∧ i = .int .i64 k ∧ eu most signs (bl s) = ((signs.drop k).all fun c => decide (dR c (bl s) = none)) ∧ Below w.heap.size w wr) (fun _ _ _ _ i _ => signs.length - (intOf i).toNat)
     case atStart => exact ⟨0, Nat.zero_le _, rfl, HL.out, Below.refl _ _⟩
     case round =>
        obtain ⟨k, hk, rfl, hpre, hbel⟩ := hrel
        have HP := Lib.hid hpre
        clear hpre
        by_cases hlt : k < signs.length
        ·have hcell := kept hbel (hb.cell hlt)
         rw [Nat.zero_add] at hcell
         have hD : signs.drop k = signs[k] :: signs.drop (k + 1) := List.drop_eq_getElem_cons hlt
         have hT : Hid (eu most signs (bl s) = (decide (dR signs[k] (bl s) = none) && ((signs.drop (k + 1)).all fun c => decide (dR c (bl s) = none)))) := by rw [Hid, HP.out, hD, List.all_cons]
         have his := ML signs[k] (bl s)
         have hk0 := fun (W : World) => HK.out signs[k] W
         generalize signs[k] = c at *
         generalize nR c (bl s) = x at his hk0
         obtain ⟨p, q, b⟩ := x
         simp only at his hk0
         rw [his] at hk0
         clear hD HP his
         by_cases hf : dR c (bl s) = none
         ·rw [hf] at hT hk0
          have HKK := Lib.hid hk0
          clear hk0 hf
          go_wp2_with (go_at_call 186; refine (HKK.out _).mono ?_; rintro e w1 ⟨rfl, hb1⟩)
          go_roundw
          case rel => exact ⟨k + 1, by omega, by go_num, by rw [hT.out]; simp, below2 hbel hb1⟩
          case measure => simp [intOf] <;> omega
         ·rw [decide_eq_false hf] at hT hk0
          have HKK := Lib.hid hk0
          clear hk0 hf
          go_wp2_with (go_at_call 186; refine (HKK.out _).mono ?_; rintro e w1 ⟨rfl, hb1⟩)
          go_ret
          exact ⟨ah (by rw [hT.out]; rfl), below2 hbel hb1⟩
        ·have HE : Hid (eu most signs (bl s) = true) := by rw [Hid, HP.out, List.drop_eq_nil_of_le (by omega)]; rfl
         go_wp2
         go_ret
         exact ⟨ah HE.out.symm, hbel⟩
    ·rw [decide_eq_false h3] at htq
     have HE : Hid (eu most signs (bl s) = false) := by rw [Hid, hd]; simp [h3]
     have HT := Lib.hid BP
     clear hd yM BP hcut h3
     go_enter Tryz.func155, Tryz.ntmps155
     go_wp2_with (first | (go_at_call 184; refine (HC.out _).mono ?_; rintro e w1 ⟨rfl, rfl⟩) | (go_at_call 185; refine (HT.out _).mono ?_; rintro e w1 ⟨rfl, rfl⟩))
     go_ret
     exact ⟨ah HE.out.symm, Below.refl _ _⟩
 ·have HE : Hid (eu most signs (bl s) = false) := by rw [Hid, hd]; simp [h1]
  clear hd yM BP hcut htq
  go_enter Tryz.func155, Tryz.ntmps155
  go_wp2
  go_ret
  exact ⟨ah HE.out.symm, Below.refl _ _⟩
/-- the reference's test of a text -/
def kJ (l : Bytes) : Bool := !control l && (decide (dR 59 l = none) && decide (trim l = l))
theorem Eb (l : Bytes) (c : UInt8) : decide (kE l c < 0) = decide (dR c l = none) := by
 unfold kE; cases dR c l <;> simp
theorem xy (s : ByteArray) (w : World) (hs : s.size ≤ 1073741824) :
 Calls Tryz.prog 156 #[.string s] w fun e w' => e = .returned (.bool (kJ (bl s))) ∧ w = w' := by
 have yM := fun (W : World) => Bq s W (by unfold maxLen; omega)
 have BP := fun (W : World) => Ig s W (by unfold maxLen; omega)
 have O1 := fun (W : World) => zW s 59 W (by unfold maxLen; omega)
 have htq : ((mkS (trim (bl s))).toList == s.toList) = decide (trim (bl s) = bl s) := by rw [lI, kP]
 have hfl := Eb (bl s) 59
 have hd : kJ (bl s) = (!control (bl s) && (decide (dR 59 (bl s) = none) && decide (trim (bl s) = bl s))) := rfl
 generalize kE (bl s) 59 = fi at *
 have HC := Lib.hid yM
 have HT := Lib.hid BP
 have HF := Lib.hid O1
 clear yM BP O1
 cases h1 : control (bl s) with
 | true =>
   have HE : Hid (kJ (bl s) = false) := by rw [Hid, hd, h1]; rfl
   rw [h1] at HC
   clear hd htq hfl
   go_enter Tryz.func156, Tryz.ntmps156
   go_wp2_with (go_at_call 187; refine (HC.out _).mono ?_; rintro e w1 ⟨rfl, rfl⟩)
   go_ret
   exact ⟨ah HE.out.symm, rfl⟩
 | false =>
   rw [h1] at HC hd
   by_cases h2 : fi < 0
   ·have h2' : dR 59 (bl s) = none := by simpa [h2] using hfl
    have HE : Hid (kJ (bl s) = decide (trim (bl s) = bl s)) := by rw [Hid, hd, h2']; simp
    have HQ := Lib.hid htq
    clear hd htq hfl h2'
    go_enter Tryz.func156, Tryz.ntmps156
    go_wp2_with (first
        | (go_at_call 187; refine (HC.out _).mono ?_; rintro e w1 ⟨rfl, rfl⟩)
        | (go_at_call 157; refine (HF.out _).mono ?_; rintro e w1 ⟨rfl, rfl⟩)
        | (go_at_call 188; refine (HT.out _).mono ?_; rintro e w1 ⟨rfl, rfl⟩))
    go_ret
    exact ⟨ah (by rw [HE.out, ← HQ.out]), rfl⟩
   ·have h2' : ¬ dR 59 (bl s) = none := by simpa [h2] using hfl
    have HE : Hid (kJ (bl s) = false) := by rw [Hid, hd]; simp [h2']
    clear hd htq hfl h2'
    go_enter Tryz.func156, Tryz.ntmps156
    go_wp2_with (first
        | (go_at_call 187; refine (HC.out _).mono ?_; rintro e w1 ⟨rfl, rfl⟩)
        | (go_at_call 157; refine (HF.out _).mono ?_; rintro e w1 ⟨rfl, rfl⟩))
    go_ret
    exact ⟨ah HE.out.symm, rfl⟩
end Go.Proofs.YtdlmbflhbecggaaGreat
