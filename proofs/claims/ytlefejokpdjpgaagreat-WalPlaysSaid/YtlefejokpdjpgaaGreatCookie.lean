/- Package cookie's tests of texts and times, and the reference's. Conditions: texts of at most 2^30 bytes. -/
import Derived.Test.YtlefejokpdjpgaaGreatHost
set_option linter.unusedSimpArgs false
set_option linter.unusedVariables false
set_option linter.unnecessarySimpa false
set_option maxHeartbeats 16000000
set_option maxRecDepth 100000
namespace Go.Proofs.YtlefejokpdjpgaaGreat
open Go.RowKit
/-- a text that is short, without controls, some signs, and blanks at its ends -/
def plainOk (most : Nat) (signs l : Bytes) : Bool := decide (l.length ≤ most) && (!control l && (decide (trim l = l) && signs.all fun c => decide (findB c l = none)))
theorem cutB_is (c : UInt8) (l : Bytes) : (cutB c l).2.2 = !decide (findB c l = none) := by
 unfold cutB; cases findB c l <;> simp
theorem within_any (n a b : Int) (w : World) : Calls Tryz.prog 148 #[.int .i64 n, .int .i64 a, .int .i64 b] w fun e w' => e = .returned (.bool (decide (a ≤ n) && decide (n ≤ b))) ∧ w = w' := by
 go_enter Tryz.func148, Tryz.ntmps148
 go_wp2
 all_goals
  go_ret
  exact ⟨ret_bool (by rw [Bool.eq_iff_iff]; simp <;> omega), rfl⟩
theorem plain_any (s : ByteArray) (most : Nat) (A : Nat) (signs : Bytes) (w : World) (hs : s.size ≤ 1073741824) (hm : most ≤ 1073741824) (hn : signs.length ≤ 1000) (hb : BytesAt w A 0 signs) :
 Calls Tryz.prog 149 #[.string s, .int .i64 most, .slice (some ⟨A, 0, none⟩) signs.length signs.length] w fun e w' => e = .returned (.bool (plainOk most signs (bl s))) ∧ Below w.heap.size w w' := by
 have hd : plainOk most signs (bl s) = (decide (s.size ≤ most) && (!control (bl s) && (decide (trim (bl s) = bl s) && signs.all fun c => decide (findB c (bl s) = none)))) := by unfold plainOk; rw [bl_length]
 have hctl := fun (W : World) => Control_any s W (by unfold maxLen; omega)
 have htrm := fun (W : World) => Trim_any s W (by unfold maxLen; omega)
 have hcut := fun (c : UInt8) (W : World) => Cut_any s c W hs
 have htq : ((mkS (trim (bl s))).toList == s.toList) = decide (trim (bl s) = bl s) := by rw [str_beq, bl_mkS]
 by_cases h1 : s.size ≤ most
 ·cases h2 : control (bl s) with
  | true =>
    have HE : Hid (plainOk most signs (bl s) = false) := by rw [Hid, hd, h2]; simp
    rw [h2] at hctl
    have HC := Lib.hid hctl
    clear hd hctl htrm hcut htq
    go_enter Tryz.func149, Tryz.ntmps149
    go_wp2_with (go_at_call 185; refine (HC.out _).mono ?_; rintro e w1 ⟨rfl, rfl⟩)
    go_ret
    exact ⟨ret_bool HE.out.symm, Below.refl _ _⟩
  | false =>
    rw [h2] at hctl hd
    have HC := Lib.hid hctl
    by_cases h3 : trim (bl s) = bl s
    ·rw [decide_eq_true h3] at htq
     have HL : Hid (plainOk most signs (bl s) = signs.all fun c => decide (findB c (bl s) = none)) := by rw [Hid, hd]; simp [h1, h3]
     have HT := Lib.hid htrm
     have HK := Lib.hid hcut
     clear hd hctl htrm hcut h3
     have hdm : decide (most < s.size) = false := by simp; omega
     go_enter Tryz.func149, Tryz.ntmps149
     go_wp2_with (first | (go_at_call 185; refine (HC.out _).mono ?_; rintro e w1 ⟨rfl, rfl⟩) | (go_at_call 186; refine (HT.out _).mono ?_; rintro e w1 ⟨rfl, rfl⟩))
     go_loopw [8, 9, 10, 11, 28] (fun _ _ _ _ i wr => ∃ k : Nat, k ≤ signs.length ∧ i = .int .i64 k ∧ plainOk most signs (bl s) = ((signs.drop k).all fun c => decide (findB c (bl s) = none)) ∧ Below w.heap.size w wr) (fun _ _ _ _ i _ => signs.length - (intOf i).toNat)
     case atStart => exact ⟨0, Nat.zero_le _, rfl, HL.out, Below.refl _ _⟩
     case round =>
        obtain ⟨k, hk, rfl, hpre, hbel⟩ := hrel
        have HP := Lib.hid hpre
        clear hpre
        by_cases hlt : k < signs.length
        ·have hcell := kept hbel (hb.cell hlt)
         rw [Nat.zero_add] at hcell
         have hD : signs.drop k = signs[k] :: signs.drop (k + 1) := List.drop_eq_getElem_cons hlt
         have hT : Hid (plainOk most signs (bl s) = (decide (findB signs[k] (bl s) = none) && ((signs.drop (k + 1)).all fun c => decide (findB c (bl s) = none)))) := by rw [Hid, HP.out, hD, List.all_cons]
         have his := cutB_is signs[k] (bl s)
         have hk0 := fun (W : World) => HK.out signs[k] W
         generalize signs[k] = c at *
         generalize cutB c (bl s) = x at his hk0
         obtain ⟨p, q, b⟩ := x
         simp only at his hk0
         rw [his] at hk0
         clear hD HP his
         by_cases hf : findB c (bl s) = none
         ·rw [hf] at hT hk0
          have HKK := Lib.hid hk0
          clear hk0 hf
          go_wp2_with (go_at_call 187; refine (HKK.out _).mono ?_; rintro e w1 ⟨rfl, hb1⟩)
          go_roundw
          case rel => exact ⟨k + 1, by omega, by go_num, by rw [hT.out]; simp, below2 hbel hb1⟩
          case measure => simp [intOf] <;> omega
         ·rw [decide_eq_false hf] at hT hk0
          have HKK := Lib.hid hk0
          clear hk0 hf
          go_wp2_with (go_at_call 187; refine (HKK.out _).mono ?_; rintro e w1 ⟨rfl, hb1⟩)
          go_ret
          exact ⟨ret_bool (by rw [hT.out]; rfl), below2 hbel hb1⟩
        ·have HE : Hid (plainOk most signs (bl s) = true) := by rw [Hid, HP.out, List.drop_eq_nil_of_le (by omega)]; rfl
         go_wp2
         go_ret
         exact ⟨ret_bool HE.out.symm, hbel⟩
    ·rw [decide_eq_false h3] at htq
     have HE : Hid (plainOk most signs (bl s) = false) := by rw [Hid, hd]; simp [h3]
     have HT := Lib.hid htrm
     clear hd hctl htrm hcut h3
     go_enter Tryz.func149, Tryz.ntmps149
     go_wp2_with (first | (go_at_call 185; refine (HC.out _).mono ?_; rintro e w1 ⟨rfl, rfl⟩) | (go_at_call 186; refine (HT.out _).mono ?_; rintro e w1 ⟨rfl, rfl⟩))
     go_ret
     exact ⟨ret_bool HE.out.symm, Below.refl _ _⟩
 ·have HE : Hid (plainOk most signs (bl s) = false) := by rw [Hid, hd]; simp [h1]
  clear hd hctl htrm hcut htq
  go_enter Tryz.func149, Tryz.ntmps149
  go_wp2
  go_ret
  exact ⟨ret_bool HE.out.symm, Below.refl _ _⟩
/-- the reference's test of a text -/
def plainR (l : Bytes) : Bool := !control l && (decide (findB 59 l = none) && decide (trim l = l))
theorem findI_lt (l : Bytes) (c : UInt8) : decide (findI l c < 0) = decide (findB c l = none) := by
 unfold findI; cases findB c l <;> simp
theorem rplain_any (s : ByteArray) (w : World) (hs : s.size ≤ 1073741824) :
 Calls Tryz.prog 88 #[.string s] w fun e w' => e = .returned (.bool (plainR (bl s))) ∧ w = w' := by
 have hctl := fun (W : World) => rControl_any s W (by unfold maxLen; omega)
 have htrm := fun (W : World) => rTrim_any s W (by unfold maxLen; omega)
 have hfnd := fun (W : World) => rFind_any s 59 W (by unfold maxLen; omega)
 have htq : ((mkS (trim (bl s))).toList == s.toList) = decide (trim (bl s) = bl s) := by rw [str_beq, bl_mkS]
 have hfl := findI_lt (bl s) 59
 have hd : plainR (bl s) = (!control (bl s) && (decide (findB 59 (bl s) = none) && decide (trim (bl s) = bl s))) := rfl
 generalize findI (bl s) 59 = fi at *
 have HC := Lib.hid hctl
 have HT := Lib.hid htrm
 have HF := Lib.hid hfnd
 clear hctl htrm hfnd
 cases h1 : control (bl s) with
 | true =>
   have HE : Hid (plainR (bl s) = false) := by rw [Hid, hd, h1]; rfl
   rw [h1] at HC
   clear hd htq hfl
   go_enter Tryz.func88, Tryz.ntmps88
   go_wp2_with (go_at_call 119; refine (HC.out _).mono ?_; rintro e w1 ⟨rfl, rfl⟩)
   go_ret
   exact ⟨ret_bool HE.out.symm, rfl⟩
 | false =>
   rw [h1] at HC hd
   by_cases h2 : fi < 0
   ·have h2' : findB 59 (bl s) = none := by simpa [h2] using hfl
    have HE : Hid (plainR (bl s) = decide (trim (bl s) = bl s)) := by rw [Hid, hd, h2']; simp
    have HQ := Lib.hid htq
    clear hd htq hfl h2'
    go_enter Tryz.func88, Tryz.ntmps88
    go_wp2_with (first
        | (go_at_call 119; refine (HC.out _).mono ?_; rintro e w1 ⟨rfl, rfl⟩)
        | (go_at_call 89; refine (HF.out _).mono ?_; rintro e w1 ⟨rfl, rfl⟩)
        | (go_at_call 120; refine (HT.out _).mono ?_; rintro e w1 ⟨rfl, rfl⟩))
    go_ret
    exact ⟨ret_bool (by rw [HE.out, ← HQ.out]), rfl⟩
   ·have h2' : ¬ findB 59 (bl s) = none := by simpa [h2] using hfl
    have HE : Hid (plainR (bl s) = false) := by rw [Hid, hd]; simp [h2']
    clear hd htq hfl h2'
    go_enter Tryz.func88, Tryz.ntmps88
    go_wp2_with (first
        | (go_at_call 119; refine (HC.out _).mono ?_; rintro e w1 ⟨rfl, rfl⟩)
        | (go_at_call 89; refine (HF.out _).mono ?_; rintro e w1 ⟨rfl, rfl⟩))
    go_ret
    exact ⟨ret_bool HE.out.symm, rfl⟩
end Go.Proofs.YtlefejokpdjpgaaGreat
