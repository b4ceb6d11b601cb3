/- Package host and its reference compute the plain functions of Defs. Conditions: texts of at most 2^30 bytes. -/
import Derived.Test.YtdlmbflhbecggaaGreatRefA
set_option linter.unusedSimpArgs false
set_option linter.unusedVariables false
set_option linter.unnecessarySimpa false
set_option maxHeartbeats 16000000
set_option maxRecDepth 100000
namespace Go.Proofs.YtdlmbflhbecggaaGreat
open Go.RowKit
def oP (c : UInt8) (e : Bool) : Bool := lH c && !(e && isDash c)
theorem tJ (c : UInt8) (b : Bool) (w : World) : Calls Tryz.prog 225 #[.int .u8 c.toNat, .bool b] w fun e w' => e = .returned (.bool (oP c b)) ∧ w = w' := by
 by_cases h45 : c.toNat = 45
 ·have h1 : ((c.toNat : Int) == 45) = true := beq_iff_eq.2 (by omega)
  have HC := Lib.hid h45
  cases b with
  | true =>
    go_enter Tryz.func225, Tryz.ntmps225
    go_wp2
    go_ret
    exact ⟨aB (by unfold oP isDash; simp [HC.out]), rfl⟩
  | false =>
    go_enter Tryz.func225, Tryz.ntmps225
    go_wp2
    go_ret
    exact ⟨aB (by unfold oP lH; simp [HC.out]), rfl⟩
 ·have h1 : ((c.toNat : Int) == 45) = false := beq_eq_false_iff_ne.2 (by omega)
  have HC := Lib.hid h45
  have HD : Hid (isDash c = false) := by unfold Hid isDash; simp [h45]
  clear h45
  go_enter Tryz.func225, Tryz.ntmps225
  go_wp2
  all_goals
   go_ret
   exact ⟨aB (by have h9 := HC.out; unfold oP; rw [HD.out]; unfold lH; rw [Bool.eq_iff_iff]; simp; (first | omega | (simp only [beq_iff_eq, beq_eq_false_iff_ne, ne_eq, bne_iff_ne, bne_eq_false_iff_eq, decide_eq_true_eq, decide_eq_false_iff_not, Bool.not_eq_eq_eq_not, Bool.not_true, Bool.not_false] at *; omega))), rfl⟩
theorem Be (c : UInt8) (w : World) : Calls Tryz.prog 231 #[.int .u8 c.toNat] w fun e w' => e = .returned (.bool (lH c)) ∧ w = w' := by
 go_enter Tryz.func231, Tryz.ntmps231
 go_wp2
 all_goals
  go_ret
  exact ⟨aB (by unfold lH; rw [Bool.eq_iff_iff]; simp; (first | omega | (simp only [beq_iff_eq, beq_eq_false_iff_ne, ne_eq, bne_iff_ne, bne_eq_false_iff_eq, decide_eq_true_eq, decide_eq_false_iff_not, Bool.not_eq_eq_eq_not, Bool.not_true, Bool.not_false] at *; omega))), rfl⟩
/-- what is left of a label's test -/
def jG (l : Bytes) (k : Nat) : Bool := (l.drop k).all lH && (decide (0 < k) || !(l.head?.any isDash)) && (decide (k = l.length) || !(l.getLast?.any isDash))
theorem zt (l : Bytes) (k : Nat) (h : k < l.length) : jG l k = (oP l[k] (decide (k = 0) || decide (k = l.length - 1)) && jG l (k + 1)) := by
 unfold jG oP
 rw [List.drop_eq_getElem_cons h, List.all_cons]
 have hh : l.head? = some l[0] := by rw [List.head?_eq_getElem?]; simp
 have hg : l.getLast? = some l[l.length - 1] := by rw [List.getLast?_eq_getElem?]; simp
 rw [hh, hg]
 simp only [Option.any_some]
 rw [Bool.eq_iff_iff]
 by_cases h0 : k = 0
 ·subst h0
  by_cases h1 : l.length - 1 = 0
  ·have e1 : l.length = 1 := by omega
   simp only [e1]
   simp [e1]
   intros; grind
  ·have e1 : ¬ (0 = l.length - 1) := by omega
   have e2 : ¬ (0 = l.length) := by omega
   have e3 : ¬ (0 + 1 = l.length) := by omega
   simp [e1, e2, e3]
   grind
 ·by_cases h1 : k = l.length - 1
  ·subst h1
   have e2 : ¬ (l.length - 1 = l.length) := by omega
   have e3 : l.length - 1 + 1 = l.length := by omega
   simp [h0, e2, e3]
   grind
  ·have e2 : ¬ (k = l.length) := by omega
   have e3 : ¬ (k + 1 = l.length) := by omega
   simp [h0, h1, e2, e3]
   grind
theorem Mc (l : Bytes) (h1 : 1 ≤ l.length) (h2 : l.length ≤ 63) : label l = jG l 0 := by
 unfold label jG
 have e : ¬ (0 = l.length) := by omega
 simp [h1, h2, e]
theorem Az (l : Bytes) (h : 0 < l.length) : jG l l.length = true := by
 unfold jG; simp [h]
theorem Nk (s : ByteArray) (k : Nat) (h : k < s.size) : (bl s)[k]'(by rw [au]; exact h) = s[k] := rfl
theorem z48 {p : Prop} (h : p := by
 go_wp2
 go_ret
 exact ⟨aB HE.out.symm, rfl⟩) : p := h
theorem z39 {p : Prop} (h : p := by
 rw [HK.out] at HS
 cases hq : oP s[k] true with
 | true =>
   rw [hq] at HS
   go_wp2_with (go_at_call 225; refine (tJ _ true _).mono ?_; rintro e w1 ⟨rfl, rfl⟩)
   go_round
   case rel => exact ⟨k + 1, by omega, by go_num, by rw [HS.out]; simp⟩
   case measure => exact z67
 | false =>
   rw [hq] at HS
   go_wp2_with (go_at_call 225; refine (tJ _ true _).mono ?_; rintro e w1 ⟨rfl, rfl⟩)
   go_ret
   exact ⟨aB (by rw [HS.out]; simp), rfl⟩) : p := h
theorem JW (s : ByteArray) (w : World) (hs : s.size ≤ 1073741824) :
 Calls Tryz.prog 204 #[.string s] w fun e w' => e = .returned (.bool (label (bl s))) ∧ w = w' := by
 by_cases h0 : 0 < s.size
 ·have he := mF h0
  have he' := lU h0
  by_cases h63 : s.size ≤ 63
  ·have HL := Lib.hid (Mc (bl s) (by rw [au]; omega) (by rw [au]; omega))
   go_enter Tryz.func204, Tryz.ntmps204
   go_wp2
   go_loop [3, 13] (fun _ i => ∃ k : Nat, k ≤ s.size ∧ i = .int .i64 k ∧ label (bl s) = jG (bl s) k) (fun _ i => s.size - (intOf i).toNat)
   case atStart => exact ⟨0, Nat.zero_le _, rfl, HL.out⟩
   case round =>
        obtain ⟨k, hk, rfl, hpre⟩ := hrel
        by_cases hlt : k < s.size
        ·have hst := zt (bl s) k hlt
         rw [Nk s k hlt, au] at hst
         have HS : Hid (label (bl s) = (oP s[k] (decide (k = 0) || decide (k = s.size - 1)) && jG (bl s) (k + 1))) := by rw [Hid, hpre, hst]
         clear hst hpre
         by_cases hk0 : k = 0
         ·have e0 : ((k : Int) == 0) = true := beq_iff_eq.2 (by omega)
          have HK : Hid ((decide (k = 0) || decide (k = s.size - 1)) = true) := by simp [Hid, hk0]
          have hk0' : k < 1 := by omega
          clear hk0
          exact z39
         ·have e0 : ((k : Int) == 0) = false := beq_eq_false_iff_ne.2 (by omega)
          by_cases hk1 : k = s.size - 1
          ·have e1 : ((k : Int) == (s.size : Int) - 1) = true := beq_iff_eq.2 (by omega)
           have HK : Hid ((decide (k = 0) || decide (k = s.size - 1)) = true) := by simp [Hid, hk1]
           clear hk0 hk1
           exact z39
          ·have e1 : ((k : Int) == (s.size : Int) - 1) = false := beq_eq_false_iff_ne.2 (by omega)
           have HK : Hid ((decide (k = 0) || decide (k = s.size - 1)) = false) := by simp [Hid, hk0, hk1]
           clear hk0 hk1
           rw [HK.out] at HS
           cases hq : oP s[k] false with
           | true =>
             rw [hq] at HS
             go_wp2_with (go_at_call 225; refine (tJ _ false _).mono ?_; rintro e w1 ⟨rfl, rfl⟩)
             go_round
             case rel => exact ⟨k + 1, by omega, by go_num, by rw [HS.out]; simp⟩
             case measure => exact z67
           | false =>
             rw [hq] at HS
             go_wp2_with (go_at_call 225; refine (tJ _ false _).mono ?_; rintro e w1 ⟨rfl, rfl⟩)
             go_ret
             exact ⟨aB (by rw [HS.out]; simp), rfl⟩
        ·have HE : Hid (label (bl s) = true) := by
          have : k = (bl s).length := by rw [au]; omega
          rw [Hid, hpre, this]; exact Az _ (by rw [au]; exact h0)
         clear hpre
         exact z48
  ·have HE : Hid (label (bl s) = false) := by
        unfold Hid label; rw [au]; simp [show ¬ s.size ≤ 63 from h63]
   go_enter Tryz.func204, Tryz.ntmps204
   exact z48
 ·obtain rfl : s = ByteArray.empty := mY (sV h0)
  have HE : Hid (label (bl ByteArray.empty) = false) := rfl
  go_enter Tryz.func204, Tryz.ntmps204
  exact z48
theorem qQ (s : ByteArray) (h : 0 < s.size) : (bl s).head? = some s[0] := by rw [List.head?_eq_getElem?, List.getElem?_eq_getElem (by rw [au]; exact h)]; rfl
theorem Dw (s : ByteArray) (h : 0 < s.size) : (bl s).getLast? = some (s[s.size - 1]'(by omega)) := by
 rw [List.getLast?_eq_getElem?, List.getElem?_eq_getElem (by rw [au]; omega)]; rfl
theorem z147 {p : Prop} (h : p := by
 go_enter Tryz.func211, Tryz.ntmps211
 exact z48) : p := h
theorem Gs (s : ByteArray) (w : World) (hs : s.size ≤ 1073741824) :
 Calls Tryz.prog 211 #[.string s] w fun e w' => e = .returned (.bool (label (bl s))) ∧ w = w' := by
 by_cases h0 : 0 < s.size
 ·by_cases h63 : s.size ≤ 63
  ·have hh := qQ s h0
   have hg := Dw s h0
   by_cases ha : s[0].toNat = 45
   ·have HE : Hid (label (bl s) = false) := by unfold Hid label; rw [hh]; simp [isDash, ha]
    have e1 : ((s[0].toNat : Int) == 45) = true := beq_iff_eq.2 (by omega)
    clear hh hg ha
    exact z147
   ·have e1 : ((s[0].toNat : Int) == 45) = false := beq_eq_false_iff_ne.2 (by omega)
    by_cases hb : s[s.size - 1].toNat = 45
    ·have HE : Hid (label (bl s) = false) := by unfold Hid label; rw [hg]; simp [isDash, hb]
     have e2 : ((s[s.size - 1].toNat : Int) == 45) = true := beq_iff_eq.2 (by omega)
     clear hh hg ha hb
     exact z147
    ·have e2 : ((s[s.size - 1].toNat : Int) == 45) = false := beq_eq_false_iff_ne.2 (by omega)
     have HL : Hid (label (bl s) = (bl s).all lH) := by
      unfold Hid label; rw [hh, hg, au]; simp [isDash, ha, hb, h63, show 1 ≤ s.size from h0]
     clear hh hg ha hb
     go_enter Tryz.func211, Tryz.ntmps211
     go_wp2
     go_loop [3] (fun i => ∃ k : Nat, k ≤ s.size ∧ i = .int .i64 k ∧ label (bl s) = ((bl s).drop k).all lH) (fun i => s.size - (intOf i).toNat)
     case atStart => exact ⟨0, Nat.zero_le _, rfl, HL.out⟩
     case round =>
      obtain ⟨k, hk, rfl, hpre⟩ := hrel
      have HP := Lib.hid hpre
      clear hpre
      by_cases hlt : k < s.size
      ·have HD := Lib.hid (drop_cons s k hlt)
       cases hq : lH s[k] with
       | true =>
         go_wp2_with (go_at_call 231; refine (Be _ _).mono ?_; rintro e w1 ⟨rfl, rfl⟩)
         go_round
         case rel => exact ⟨k + 1, by omega, by go_num, by rw [HP.out, HD.out]; simp [hq]⟩
         case measure => exact z67
       | false =>
         go_wp2_with (go_at_call 231; refine (Be _ _).mono ?_; rintro e w1 ⟨rfl, rfl⟩)
         go_ret
         exact ⟨aB (by rw [HP.out, HD.out]; simp [hq]), rfl⟩
      ·have HD := Lib.hid (jw s k hlt)
       go_wp2
       go_ret
       exact ⟨aB (by rw [HP.out, HD.out]; rfl), rfl⟩
  ·have HE : Hid (label (bl s) = false) := by
        unfold Hid label; rw [au]; simp [show ¬ s.size ≤ 63 from h63]
   exact z147
 ·obtain rfl : s = ByteArray.empty := mY (sV h0)
  have HE : Hid (label (bl ByteArray.empty) = false) := rfl
  exact z147
/-- the middle of an address in brackets -/
theorem xn (s : ByteArray) (h4 : 4 ≤ s.size) : ((bl s).drop 1).take ((bl s).length - 2) = bl (s.extract 1 (s.size - 1)) := by
 rw [gu, au, List.drop_take]; congr 1
theorem z58 {p : Prop} (h : p := by
 go_wp2
 go_ret
 exact ⟨aB HE.out.symm, Below.refl _ _⟩) : p := h
theorem z148 {p : Prop} (h : p := by
 go_enter Tryz.func206, Tryz.ntmps206
 exact z58) : p := h
theorem FU (s : ByteArray) (w : World) (hs : s.size ≤ 1073741824) :
 Calls Tryz.prog 206 #[.string s] w fun e w' => e = .returned (.bool (bracket (bl s))) ∧ Below w.heap.size w w' := by
 by_cases h4 : 4 ≤ s.size
 ·by_cases h47 : s.size ≤ 47
  ·have h0 : 0 < s.size := by omega
   have hh := qQ s h0
   have hg := Dw s h0
   by_cases ha : s[0].toNat = 91
   ·have e1 : ((s[0].toNat : Int) != 91) = false := by rw [bne_eq_false_iff_eq]; omega
    by_cases hb : s[s.size - 1].toNat = 93
    ·have e2 : ((s[s.size - 1].toNat : Int) != 93) = false := by rw [bne_eq_false_iff_eq]; omega
     have HM : Hid (bracket (bl s) = (bl (s.extract 1 (s.size - 1))).all jm) := by
      unfold Hid bracket
      rw [xn s h4, hh, hg, au]
      simp [ha, hb, h4, h47]
     obtain ⟨cap, w1, hconv, hb1, hz1, hcap, hby, hfr⟩ := Aa (P := Tryz.prog) 9 22 5 Tryz.underlying9 Tryz.underlying22 Tryz.underlying5 w (s.extract 1 (s.size - 1))
     have hts : Hid ((s.extract 1 (s.size - 1)).size = s.size - 1 - 1) := by unfold Hid; simp <;> omega
     have hsx : (1 : Int) ≤ (s.size : Int) - 1 := by omega
     have hsy : (s.size : Int) - 1 ≤ (s.size : Int) := by omega
     have hsz : (0 : Int) ≤ (s.size : Int) - 1 := by omega
     have hsw : ((s.size : Int) - 1).toNat = s.size - 1 := by omega
     clear hh hg ha hb hfr hz1
     go_enter Tryz.func206, Tryz.ntmps206
     go_wp2
     clear hconv
     generalize s.extract 1 (s.size - 1) = t at *
     go_loop [4, 33] (fun _ i => ∃ k : Nat, k ≤ s.size - 1 - 1 ∧ i = .int .i64 k ∧ bracket (bl s) = ((bl t).drop k).all jm) (fun _ i => s.size - (intOf i).toNat)
     case atStart => exact ⟨0, Nat.zero_le _, rfl, HM.out⟩
     case round =>
      obtain ⟨k, hk, rfl, hpre⟩ := hrel
      have HP := Lib.hid hpre
      clear hpre
      by_cases hlt' : k < s.size - 1 - 1
      ·have hlt : k < t.size := by rw [hts.out]; exact hlt'
       have HD := Lib.hid (drop_cons t k hlt)
       have hck := hby k hlt
       rw [Nk t k hlt, Nat.zero_add] at hck
       have HY : Hid (jm t[k] = true → bracket (bl s) = ((bl t).drop (k + 1)).all jm) := fun h => by rw [HP.out, HD.out]; simp [h]
       have HN : Hid (jm t[k] = false → bracket (bl s) = false) := fun h => by rw [HP.out, HD.out]; simp [h]
       clear HP HD
       generalize t[k] = c at *
       clear hby
       go_wp2
       all_goals first
            | (go_ret; exact ⟨aB (HN.out (by unfold jm; rw [Bool.eq_iff_iff]; simp; (first | omega | (simp only [beq_iff_eq, beq_eq_false_iff_ne, ne_eq, bne_iff_ne, bne_eq_false_iff_eq, decide_eq_true_eq, decide_eq_false_iff_not, Bool.not_eq_eq_eq_not, Bool.not_true, Bool.not_false] at *; omega)))).symm, hb1⟩)
            | (go_round
               case rel => exact ⟨k + 1, by omega, by go_num, HY.out (by unfold jm; simp; (first | omega | (simp only [beq_iff_eq, beq_eq_false_iff_ne, ne_eq, bne_iff_ne, bne_eq_false_iff_eq, decide_eq_true_eq, decide_eq_false_iff_not, Bool.not_eq_eq_eq_not, Bool.not_true, Bool.not_false] at *; omega)))⟩
               case measure => simp [intOf] <;> omega)
      ·have HD := Lib.hid (jw t k (by rw [hts.out]; exact hlt'))
       go_wp2
       go_ret
       exact ⟨aB (by rw [HP.out, HD.out]; rfl), hb1⟩
    ·have e2 : ((s[s.size - 1].toNat : Int) != 93) = true := by rw [bne_iff_ne]; omega
     have HE : Hid (bracket (bl s) = false) := by unfold Hid bracket; rw [hg]; simp [hb]
     clear hh hg hb ha
     exact z148
   ·have e1 : ((s[0].toNat : Int) != 91) = true := by rw [bne_iff_ne]; omega
    have HE : Hid (bracket (bl s) = false) := by unfold Hid bracket; rw [hh]; simp [ha]
    clear hh hg ha
    exact z148
  ·have HE : Hid (bracket (bl s) = false) := by unfold Hid bracket; rw [au]; simp [show ¬ s.size ≤ 47 from h47]
   exact z148
 ·have HE : Hid (bracket (bl s) = false) := by unfold Hid bracket; rw [au]; simp [show ¬ 4 ≤ s.size from h4]
  exact z148
theorem z149 {p : Prop} (h : p := by
 go_enter Tryz.func212, Tryz.ntmps212
 exact z48) : p := h
theorem CU (s : ByteArray) (w : World) (hs : s.size ≤ 1073741824) :
 Calls Tryz.prog 212 #[.string s] w fun e w' => e = .returned (.bool (bracket (bl s))) ∧ w = w' := by
 by_cases h4 : 4 ≤ s.size
 ·by_cases h47 : s.size ≤ 47
  ·have h0 : 0 < s.size := by omega
   have hh := qQ s h0
   have hg := Dw s h0
   by_cases ha : s[0].toNat = 91
   ·have e1 : ((s[0].toNat : Int) != 91) = false := by rw [bne_eq_false_iff_eq]; omega
    by_cases hb : s[s.size - 1].toNat = 93
    ·have e2 : ((s[s.size - 1].toNat : Int) != 93) = false := by rw [bne_eq_false_iff_eq]; omega
     have HM : Hid (bracket (bl s) = (((bl s).take (s.size - 1)).drop 1).all jm) := by
      unfold Hid bracket
      rw [xn s h4, hh, hg, au, gu]
      simp [ha, hb, h4, h47]
     clear hh hg ha hb
     go_enter Tryz.func212, Tryz.ntmps212
     go_wp2
     go_loop [3, 4] (fun i _ => ∃ k : Nat, 1 ≤ k ∧ k ≤ s.size - 1 ∧ i = .int .i64 k ∧ bracket (bl s) = (((bl s).take (s.size - 1)).drop k).all jm) (fun i _ => s.size - (intOf i).toNat)
     case atStart => exact ⟨1, Nat.le_refl _, by omega, rfl, HM.out⟩
     case round =>
      obtain ⟨k, hk1, hk, rfl, hpre⟩ := hrel
      have HP := Lib.hid hpre
      clear hpre
      by_cases hlt : k < s.size - 1
      ·have hlt2 : k < s.size := by omega
       have HD : Hid (((bl s).take (s.size - 1)).drop k = s[k] :: ((bl s).take (s.size - 1)).drop (k + 1)) := by
            rw [Hid, List.drop_eq_getElem_cons (by simp [au]; omega), List.getElem_take]; rfl
       have HY : Hid (jm s[k] = true → bracket (bl s) = (((bl s).take (s.size - 1)).drop (k + 1)).all jm) := fun h => by rw [HP.out, HD.out]; simp [h]
       have HN : Hid (jm s[k] = false → bracket (bl s) = false) := fun h => by rw [HP.out, HD.out]; simp [h]
       clear HP HD
       go_wp2
       all_goals first
            | (go_ret; exact ⟨aB (HN.out (by unfold jm; rw [Bool.eq_iff_iff]; simp; (first | omega | (simp only [beq_iff_eq, beq_eq_false_iff_ne, ne_eq, bne_iff_ne, bne_eq_false_iff_eq, decide_eq_true_eq, decide_eq_false_iff_not, Bool.not_eq_eq_eq_not, Bool.not_true, Bool.not_false] at *; omega)))).symm, rfl⟩)
            | (go_round
               case rel => exact ⟨k + 1, by omega, by omega, by go_num, HY.out (by unfold jm; simp; (first | omega | (simp only [beq_iff_eq, beq_eq_false_iff_ne, ne_eq, bne_iff_ne, bne_eq_false_iff_eq, decide_eq_true_eq, decide_eq_false_iff_not, Bool.not_eq_eq_eq_not, Bool.not_true, Bool.not_false] at *; omega)))⟩
               case measure => simp [intOf] <;> omega)
      ·have HD : Hid (((bl s).take (s.size - 1)).drop k = []) := by rw [Hid, List.drop_eq_nil_iff]; simp [au]; omega
       have hge : (s.size : Int) - 1 ≤ (k : Int) := by omega
       go_wp2
       go_ret
       exact ⟨aB (by rw [HP.out, HD.out]; rfl), rfl⟩
    ·have e2 : ((s[s.size - 1].toNat : Int) != 93) = true := by rw [bne_iff_ne]; omega
     have HE : Hid (bracket (bl s) = false) := by unfold Hid bracket; rw [hg]; simp [hb]
     clear hh hg hb ha
     exact z149
   ·have e1 : ((s[0].toNat : Int) != 91) = true := by rw [bne_iff_ne]; omega
    have HE : Hid (bracket (bl s) = false) := by unfold Hid bracket; rw [hh]; simp [ha]
    clear hh hg ha
    exact z149
  ·have HE : Hid (bracket (bl s) = false) := by unfold Hid bracket; rw [au]; simp [show ¬ s.size ≤ 47 from h47]
   exact z149
 ·have HE : Hid (bracket (bl s) = false) := by unfold Hid bracket; rw [au]; simp [show ¬ 4 ≤ s.size from h4]
  exact z149
/-- a slice of strings that the callee made, read -/
theorem mr {w : World} {base : Nat} {E : TypeId} {v : Value} {L : List Bytes} (h : w.ownsRow base E 1 v L.length (lW L)) (hne : L ≠ []) :
 ∃ g cap, v = .slice (some ⟨g, 0, none⟩) L.length cap ∧ ∀ j (hj : j < L.length), w.cell? ⟨g, j, none⟩ = some (.string (mkS L[j])) := by
 have hc := fun g (hg : v.ownBlock = some g) => h.cells hg
 rcases h.2 with ⟨rfl, hn⟩ | ⟨g, cap, cur, rfl, rest⟩
 ·exact absurd (List.length_eq_zero_iff.1 hn) hne
 ·refine ⟨g, cap, rfl, fun j hj => ?_⟩
  have := hc g rfl j (.string (mkS L[j])) (by simp [lW, hj])
  unfold Addr.add at this
  split at this
  ·rename_i h0; subst h0; exact this
  ·simpa using this
theorem qN (c : UInt8) (s : ByteArray) (hs : s.size ≤ 1073741824) : (splitB c (bl s)).length ≤ 1073741825 := by
 have := rG c (bl s); rw [au] at this; omega
theorem kF (c : UInt8) : ∀ (l : Bytes) (p : Bytes), p ∈ splitB c l → p.length ≤ l.length
 | [], p, h => by simp [splitB] at h; subst h; simp
 | x :: r, p, h => by
   unfold splitB at h
   split at h
   ·rcases List.mem_cons.1 h with rfl | h
    ·simp
    ·have := kF c r p h; simp; omega
   ·cases hs : splitB c r with
    | nil => exact absurd hs (jC c r)
    | cons a b =>
      rw [hs] at h
      rcases List.mem_cons.1 h with rfl | h
      ·have := kF c r a (by rw [hs]; simp); simp; omega
      ·have := kF c r p (by rw [hs]; simp [h]); simp; omega
/-- what decides on a number of an address -/
theorem LQ (t : ByteArray) : jO (bl t) = (decide (0 < t.size) && ((bl t).all isDigit && (decide (jW (bl t) ≤ 255) && (decide (t.size ≤ 1) || !((bl t).head?.any fun c => decide (c.toNat = 48)))))) := by
 unfold jO; rw [au]; simp [Nat.succ_le_iff, Bool.and_assoc]
theorem z53 {p : Prop} (h : p := by
 generalize number (bl t) = nv at lN
 have hnum := Lib.hid lN
 have hdig := Lib.hid uk
 clear lN uk hT
 go_wp2_with (first | (go_at_call 226; refine (hnum.out _).mono ?_; rintro e w2 ⟨rfl, rfl⟩) | (go_at_call 227; refine (hdig.out _).mono ?_; rintro e w2 ⟨rfl, rfl⟩))
 go_round
 case rel => exact ⟨k + 1, by omega, by go_num, HE.out⟩
 case measure => simp [intOf] <;> omega) : p := h
theorem z28 {p : Prop} (h : p := by
 generalize number (bl t) = nv at lN
 have hnum := Lib.hid lN
 have hdig := Lib.hid uk
 clear lN uk hT
 go_wp2_with (first | (go_at_call 226; refine (hnum.out _).mono ?_; rintro e w2 ⟨rfl, rfl⟩) | (go_at_call 227; refine (hdig.out _).mono ?_; rintro e w2 ⟨rfl, rfl⟩))
 go_ret
 exact ⟨aB HE.out.symm, hbel⟩) : p := h
theorem z92 {p : Prop} (h : p := by have := kF 46 (bl s) p (by rw [← hL]; exact hp); rw [au] at this; omega) : p := h
theorem z150 {p : Prop} (h : p := by
 go_ret
 exact ⟨aB HE.out.symm, hbel⟩) : p := h
theorem y51 {p q : Prop} (k : q) (h : PLift q → p := by
 intro kk
 have hD : L.drop k = L[k] :: L.drop (k + 1) := List.drop_eq_getElem_cons hlt
 have hml := hmem.out L[k] (List.getElem_mem hlt)
 revert hD hml
 exact kk.down) : p := h ⟨k⟩
theorem Fg (s : ByteArray) (w : World) (hs : s.size ≤ 1073741824) :
 Calls Tryz.prog 205 #[.string s] w fun e w' => e = .returned (.bool (four (bl s))) ∧ Below w.heap.size w w' := by
 obtain ⟨L, hL⟩ : ∃ L, L = splitB 46 (bl s) := ⟨_, rfl⟩
 have hsp := fun (W : World) => Cb s 46 W hs
 have hne : L ≠ [] := by rw [hL]; exact jC _ _
 have hmem : Hid (∀ p ∈ L, p.length ≤ 1073741824) := fun p hp => by
  exact z92
 have EY : Hid (four (bl s) = (decide (L.length = 4) && L.all jO)) := by unfold Hid four; rw [hL]
 rw [← hL] at hsp
 have hlen : L.length ≤ 1073741825 := by rw [hL]; exact qN 46 s hs
 have HS := Lib.hid hsp
 clear hsp hL
 by_cases h4 : L.length = 4
 ·have e4 : ((L.length : Int) != 4) = false := by rw [bne_eq_false_iff_eq]; omega
  have H4 := Lib.hid h4
  have hlt4 : L.length ≤ 4 := by omega
  clear h4
  go_enter Tryz.func205, Tryz.ntmps205
  go_wp2_with (go_at_call 203; refine (HS.out _).mono ?_; rintro e w1 ⟨v, rfl, hown, hbel⟩; obtain ⟨g, cap, rfl, hcells⟩ := mr hown hne; have HC := Lib.hid hcells; clear hcells hown)
  go_loop [5, 6, 7, 15, 19] (fun _ _ _ i _ => ∃ k : Nat, k ≤ L.length ∧ i = .int .i64 k ∧ four (bl s) = (L.drop k).all jO) (fun _ _ _ i _ => L.length - (intOf i).toNat)
  case atStart => exact ⟨0, Nat.zero_le _, rfl, by rw [EY.out, H4.out]; simp⟩
  case round =>
   obtain ⟨k, hk, rfl, hpre⟩ := hrel
   have HP := Lib.hid hpre
   clear hpre
   by_cases hlt : k < L.length
   ·have hcell := HC.out k hlt
    refine y51 ?_
    intro hD hml
    have hO := LQ (mkS L[k])
    rw [lJ] at hO
    have hT : Hid (four (bl s) = (jO L[k] && (L.drop (k + 1)).all jO)) := by rw [Hid, HP.out, hD, List.all_cons]
    rw [hO] at hT
    obtain ⟨t, ht⟩ : ∃ t, t = mkS L[k] := ⟨_, rfl⟩
    rw [← ht] at hcell hT
    have hbt : L[k] = bl t := by rw [ht, lJ]
    rw [hbt] at hT
    have hts : t.size ≤ 1073741824 := by rw [ht, mJ]; exact hml
    clear HP hO ht hbt hml hD
    have lN := fun (W : World) => IB t W hts
    have uk := fun (W : World) => sZ t W (by unfold maxLen; omega)
    have hdl := oK (bl t)
    rw [au] at hdl
    by_cases h0 : 0 < t.size
    ·have hse := mF h0
     have hse' := lU h0
     have hhd := qQ t h0
     by_cases hall : (bl t).all isDigit = true
     ·have hnl : ¬ digits (bl t) < t.size := fun h => (eF (bl t)).1 (by rw [au]; exact h) hall
      have MM : ¬ (0 < t.size ∧ ∀ h : 0 < t.size, t[0].toNat = 45) := fun ⟨_, h⟩ => by
            have h9 := sN hall h0
            have := h h0
            simp [isDigit, this] at h9
      have hnv := o7 t MM
      rw [if_pos ⟨h0, hall⟩] at hnv
      rw [hnv] at lN
      simp only at lN
      have hnb := tZ (bl t) hall
      by_cases h255 : jW (bl t) ≤ 255
      ·by_cases h1 : t.size ≤ 1
       ·have HE : Hid (four (bl s) = (L.drop (k + 1)).all jO) := by rw [Hid, hT]; simp [h0, hall, h255, h1]
        exact z53
       ·by_cases h48 : t[0].toNat = 48
        ·have HE : Hid (four (bl s) = false) := by rw [Hid, hT, hhd]; simp [h1, h48]
         have e48 : ((t[0].toNat : Int) == 48) = true := beq_iff_eq.2 (by omega)
         exact z28
        ·have HE : Hid (four (bl s) = (L.drop (k + 1)).all jO) := by rw [Hid, hT, hhd]; simp [h0, hall, h255, h48]
         have e48 : ((t[0].toNat : Int) == 48) = false := beq_eq_false_iff_ne.2 (by omega)
         exact z53
      ·have HE : Hid (four (bl s) = false) := by rw [Hid, hT]; simp [h255]
       exact z28
     ·have hnl : digits (bl t) < t.size := by have := (eF (bl t)).2 hall; rwa [au] at this
      have HE : Hid (four (bl s) = false) := by rw [Hid, hT]; simp [hall]
      exact z28
    ·have hse := lT h0
     have hse' := nZ h0
     have HE : Hid (four (bl s) = false) := by rw [Hid, hT]; simp [h0]
     exact z28
   ·have HE : Hid (four (bl s) = true) := by rw [Hid, HP.out, List.drop_eq_nil_of_le (by omega)]; rfl
    go_wp2
    exact z150
 ·have e4 : ((L.length : Int) != 4) = true := by rw [bne_iff_ne]; omega
  have HE : Hid (four (bl s) = false) := by rw [Hid, EY.out]; simp [h4]
  clear h4
  go_enter Tryz.func205, Tryz.ntmps205
  go_wp2_with (go_at_call 203; refine (HS.out _).mono ?_; rintro e w1 ⟨v, rfl, hown, hbel⟩; obtain ⟨g, cap, rfl, hcells⟩ := mr hown hne; have HC := Lib.hid hcells; clear hcells hown)
  exact z150
/-- what the reference asks of a number of an address -/
def lG (p : Bytes) : Bool := decide (1 ≤ p.length) && decide (p.length ≤ 3) && p.all isDigit && decide (jW p ≤ 255) && decide (jZ (jW p).toNat = p)
theorem Fh : ∀ (l : Bytes) (n : Int), 0 ≤ n → n ≤ 1099511627776 → l.all isDigit = true → n ≤ l.foldl dS n
 | [], _, _, _, _ => Int.le_refl _
 | c :: r, n, h0, h1, hl => by
   simp only [List.all_cons, Bool.and_eq_true] at hl
   have h2 := o8 h0 hl.1
   have h3 := Fh r (dS n c) h2.1 h2.2 hl.2
   have hd := hl.1
   unfold isDigit at hd; simp at hd
   have h4 : n ≤ dS n c := by unfold dS; omega
   exact Int.le_trans h4 h3
theorem mV {c : UInt8} (h : isDigit c = true) : 48 ≤ c.toNat ∧ c.toNat ≤ 57 := by simpa [isDigit] using h
theorem mG (n : Nat) (c : UInt8) (h : n = c.toNat) : UInt8.ofNat n = c := by
 apply UInt8.toNat_inj.1; rw [h]; simp
theorem JI (p : Bytes) : jO p = lG p := by
 match p with
 | [] => rfl
 | [a] =>
   unfold jO lG
   by_cases ha : isDigit a = true
   ·have h := mV ha
    have hn : jW [a] = ((a.toNat - 48 : Nat) : Int) := by simp [jW, dS]; omega
    have ht : jZ (a.toNat - 48) = [a] := by rw [iM _ (by omega), mG _ a (by omega)]
    rw [hn]; simp [ha, ht]; 
   ·simp [ha]
 | [a, b] =>
   unfold jO lG
   by_cases ha : isDigit a = true
   ·by_cases hb : isDigit b = true
    ·have h1 := mV ha
     have h2 := mV hb
     have hn : jW [a, b] = (((a.toNat - 48) * 10 + (b.toNat - 48) : Nat) : Int) := by simp [jW, dS]; omega
     rw [hn]
     by_cases h0 : a.toNat = 48
     ·have ht : jZ ((a.toNat - 48) * 10 + (b.toNat - 48)) = [b] := by rw [h0]; simp; rw [iM _ (by omega), mG _ b (by omega)]
      simp [ha, hb, h0]
      rw [h0] at ht
      simp at ht
      rw [ht]; simp
     ·have ht : jZ ((a.toNat - 48) * 10 + (b.toNat - 48)) = [a, b] := by
       rw [mi _ (by omega), iM _ (by omega), mG _ a (by omega), mG _ b (by omega)]; rfl
      rw [Int.toNat_natCast, ht]; simp [ha, hb, h0]
    ·simp [ha, hb]
   ·simp [ha]
 | [a, b, c] =>
   unfold jO lG
   by_cases ha : isDigit a = true
   ·by_cases hb : isDigit b = true
    ·by_cases hc : isDigit c = true
     ·have h1 := mV ha
      have h2 := mV hb
      have h3 := mV hc
      have hn : jW [a, b, c] = (((a.toNat - 48) * 100 + (b.toNat - 48) * 10 + (c.toNat - 48) : Nat) : Int) := by simp [jW, dS]; omega
      rw [hn]
      by_cases h0 : a.toNat = 48
      ·have ht : jZ ((a.toNat - 48) * 100 + (b.toNat - 48) * 10 + (c.toNat - 48)) ≠ [a, b, c] := by
             intro h
             have hl := congrArg List.length h
             by_cases hs : (a.toNat - 48) * 100 + (b.toNat - 48) * 10 + (c.toNat - 48) < 10
             ·rw [iM _ hs] at hl; simp at hl
             ·rw [mi _ hs, iM _ (by omega)] at hl; simp at hl
       simp [ha, hb, hc, h0] at ht ⊢
       intro _; exact ht
      ·have ht : jZ ((a.toNat - 48) * 100 + (b.toNat - 48) * 10 + (c.toNat - 48)) = [a, b, c] := by
             rw [mi _ (by omega), mi _ (by omega), iM _ (by omega), mG _ a (by omega), mG _ b (by omega), mG _ c (by omega)]; rfl
       rw [Int.toNat_natCast, ht]; simp [ha, hb, hc, h0]
     ·simp [ha, hb, hc]
    ·simp [ha, hb]
   ·simp [ha]
 | a :: b :: c :: d :: r =>
   have e2 : lG (a :: b :: c :: d :: r) = false := by unfold lG; simp
   rw [e2]
   by_cases hall : (a :: b :: c :: d :: r).all isDigit = true
   ·by_cases h0 : a.toNat = 48
    ·unfold jO; simp [h0]
    ·have hx := hall
     simp only [List.all_cons, Bool.and_eq_true] at hx
     obtain ⟨ha, hb, hc, hd, hr⟩ := hx
     have h1 := mV ha
     have h2 := mV hb
     have h3 := mV hc
     have h4 := mV hd
     have hs : [a, b, c, d].foldl dS 0 = (((a.toNat - 48) * 1000 + (b.toNat - 48) * 100 + (c.toNat - 48) * 10 + (d.toNat - 48) : Nat) : Int) := by simp [dS]; omega
     have hg := Fh r ([a, b, c, d].foldl dS 0) (by rw [hs]; omega) (by rw [hs]; omega) hr
     have hn : ¬ jW (a :: b :: c :: d :: r) ≤ 255 := by
      have : jW (a :: b :: c :: d :: r) = r.foldl dS ([a, b, c, d].foldl dS 0) := rfl
      rw [this, hs]; rw [hs] at hg; omega
     unfold jO; simp [hn]
   ·unfold jO; simp only [hall]; simp
theorem quiet_of_same' {P : Program} {f : FuncId} {args : Array Value} {w : World} {n : Nat} {v : Value}
 (h : Calls P f args (w.drewN n) fun e w' => e = .returned v ∧ w.drewN n = w') : Calls P f args (w.drewN n) fun e w'' => e = .returned v ∧ ∃ m, w'' = w.drewN m :=
 h.mono fun _ _ ⟨he, hm⟩ => ⟨he, n, hm.symm⟩
theorem z42 {p : Prop} (h : p := by
 generalize number (bl t) = nv at lN
 have hnum := Lib.hid lN
 have hdig := Lib.hid uk
 clear lN uk hT
 go_wp2
 go_quiet ((first | (with_reducible exact quiet_of_same' (hdig.out _))))
 go_wp2
 go_ret
 exact ⟨aB HE.out.symm, hbt.trans (below_drewN' _)⟩) : p := h
theorem qP (s : ByteArray) (w : World) (hs : s.size ≤ 1073741824) :
 Calls Tryz.prog 209 #[.string s] w fun e w' => e = .returned (.bool (four (bl s))) ∧ Below w.heap.size w w' := by
 obtain ⟨L, hL⟩ : ∃ L, L = splitB 46 (bl s) := ⟨_, rfl⟩
 have hsp := fun (W : World) => yI s 46 W hs
 have hne : L ≠ [] := by rw [hL]; exact jC _ _
 have hmem : Hid (∀ p ∈ L, p.length ≤ 1073741824) := fun p hp => by
  exact z92
 have EY : Hid (four (bl s) = (decide (L.length = 4) && L.all jO)) := by unfold Hid four; rw [hL]
 rw [← hL] at hsp
 have hlen : L.length ≤ 1073741825 := by rw [hL]; exact qN 46 s hs
 have HS := Lib.hid hsp
 clear hsp hL
 by_cases h4 : L.length = 4
 ·have e4 : ((L.length : Int) != 4) = false := by rw [bne_eq_false_iff_eq]; omega
  have H4 := Lib.hid h4
  have hlt4 : L.length ≤ 4 := by omega
  have hge4 : 4 ≤ L.length := by omega
  clear h4
  go_enter Tryz.func209, Tryz.ntmps209
  go_wp2_with (go_at_call 210; refine (HS.out _).mono ?_; rintro e w1 ⟨v, rfl, hown, hbel⟩; obtain ⟨g, cap, rfl, hcells⟩ := mr hown hne; have HC := Lib.hid hcells; clear hcells hown)
  go_loopw [4, 5, 6] (fun i _ _ wr => ∃ k : Nat, k ≤ L.length ∧ i = .int .i64 k ∧ four (bl s) = (L.drop k).all jO ∧ Below w1.heap.size w1 wr) (fun i _ _ _ => L.length - (intOf i).toNat)
  case atStart => exact ⟨0, Nat.zero_le _, rfl, by rw [EY.out, H4.out]; simp, Below.refl _ _⟩
  case round =>
   obtain ⟨k, hk, rfl, hpre, hbr⟩ := hrel
   have HP := Lib.hid hpre
   clear hpre
   have hbt := below2 hbel hbr
   by_cases hlt : k < L.length
   ·have hcell := kept hbr (HC.out k hlt)
    have hk4 : k < 4 := by omega
    refine y51 ?_
    intro hD hml
    have hT : Hid (four (bl s) = (lG L[k] && (L.drop (k + 1)).all jO)) := by rw [Hid, HP.out, hD, List.all_cons, JI]
    obtain ⟨t, ht⟩ : ∃ t, t = mkS L[k] := ⟨_, rfl⟩
    rw [← ht] at hcell
    have zH : L[k] = bl t := by rw [ht, lJ]
    rw [zH] at hT
    have hts : t.size ≤ 1073741824 := by rw [ht, mJ]; exact hml
    clear HP ht zH hml hD
    have lN := fun (W : World) => En t W hts
    have uk := fun (W : World) => nD t W (by unfold maxLen; omega)
    by_cases h0 : 0 < t.size
    ·have d1 : decide ((t.size : Int) < 1) = false := by simp; omega
     by_cases h3 : t.size ≤ 3
     ·have d3 : decide (3 < (t.size : Int)) = false := by simp; omega
      by_cases hall : (bl t).all isDigit = true
      ·have hnl : ¬ digits (bl t) < t.size := fun h => (eF (bl t)).1 (by rw [au]; exact h) hall
       have hdl := oK (bl t)
       rw [au] at hdl
       have d4 : ((digits (bl t) : Int) != (t.size : Int)) = false := by rw [bne_eq_false_iff_eq]; omega
       have MM : ¬ (0 < t.size ∧ ∀ h : 0 < t.size, t[0].toNat = 45) := fun ⟨_, h⟩ => by
              have h9 := sN hall h0
              have := h h0
              simp [isDigit, this] at h9
       have hnv := o7 t MM
       rw [if_pos ⟨h0, hall⟩] at hnv
       have hnb := tZ (bl t) hall
       obtain ⟨m, hm⟩ : ∃ m : Nat, jW (bl t) = (m : Int) := ⟨(jW (bl t)).toNat, by omega⟩
       rw [hnv, hm] at lN
       simp only at lN
       have hm2 : m ≤ 1099511627776 := by omega
       have hO : lG (bl t) = (decide (m ≤ 255) && decide (jZ m = bl t)) := by
              unfold lG
              rw [hall, hm, Int.toNat_natCast, au]
              rw [show decide ((m : Int) ≤ 255) = decide (m ≤ 255) by rw [Bool.eq_iff_iff]; simp; omega]
              simp [h3, show 1 ≤ t.size from h0]
       rw [hO] at hT
       have htx := fun (W : World) => Js m W (by omega)
       have hnum := Lib.hid lN
       have hdig := Lib.hid uk
       have HTX := Lib.hid htx
       clear lN uk htx hnv hm hnb hO hnl hall
       by_cases h255 : m ≤ 255
       ·have d5 : decide (255 < (m : Int)) = false := by simp; omega
        by_cases htm : jZ m = bl t
        ·have HE : Hid (four (bl s) = (L.drop (k + 1)).all jO) := by rw [Hid, hT]; simp [h255, htm]
         have d6 : ((mkS (jZ m)).toList == t.toList) = true := by rw [lV, lJ]; simp [htm]
         clear hT htm
         go_wp2
         go_quiet ((first | (with_reducible exact quiet_of_same' (hdig.out _))))
         go_wp2_with (go_at_call 229; refine (hnum.out _).mono ?_; rintro e w2 ⟨rfl, rfl⟩)
         refine aH (by kernel_rfl) (by kernel_rfl) (fun W hW => ?_)
         have hcw : ∀ i : After W, i.w.cell? ⟨g, k, none⟩ = some (.string t) := fun i => i.cell (by rw [hW.out]; exact hcell)
         quiet_step (fail)
         quiet_step (fail)
         quiet_step (fail)
         quiet_step (fail)
         quiet_step (exact Calls.after (HTX.out _))
         quiet_step (fail)
         quiet_step (fail)
         quiet_step (fail)
         quiet_step (fail)
         quiet_step (fail)
         quiet_step (fail)
         refine wpQuiet_nil ?_
         rintro _ ⟨i, rfl⟩
         have hib := i.h
         generalize i.w = wi at hib ⊢
         rw [hW.out] at hib
         clear hcw
         go_wp2
         go_roundw
         case rel => exact ⟨k + 1, by omega, by go_num, HE.out, hbr.trans ((below_drewN' (B := w1.heap.size) nq).trans (hib.mono (by simp; exact hbr.size)))⟩
         case measure => exact z67
        ·have HE : Hid (four (bl s) = false) := by rw [Hid, hT]; simp [htm]
         have d6 : ((mkS (jZ m)).toList == t.toList) = false := by rw [lV, lJ]; simpa using htm
         clear hT htm
         go_wp2
         go_quiet ((first | (with_reducible exact quiet_of_same' (hdig.out _))))
         go_wp2_with (go_at_call 229; refine (hnum.out _).mono ?_; rintro e w2 ⟨rfl, rfl⟩)
         refine aH (by kernel_rfl) (by kernel_rfl) (fun W hW => ?_)
         have hcw : ∀ i : After W, i.w.cell? ⟨g, k, none⟩ = some (.string t) := fun i => i.cell (by rw [hW.out]; exact hcell)
         quiet_step (fail)
         quiet_step (fail)
         quiet_step (fail)
         quiet_step (fail)
         quiet_step (exact Calls.after (HTX.out _))
         quiet_step (fail)
         quiet_step (fail)
         quiet_step (fail)
         quiet_step (fail)
         quiet_step (fail)
         quiet_step (fail)
         refine wpQuiet_nil ?_
         rintro _ ⟨i, rfl⟩
         have hib := i.h
         generalize i.w = wi at hib ⊢
         rw [hW.out] at hib
         clear hcw
         go_wp2
         go_ret
         exact ⟨aB HE.out.symm, hbt.trans ((below_drewN' nq).trans (hib.mono (by simp; exact hbt.size)))⟩
       ·have HE : Hid (four (bl s) = false) := by rw [Hid, hT]; simp [h255]
        have d5 : decide (255 < (m : Int)) = true := by simp; omega
        clear hT
        go_wp2
        go_quiet ((first | (with_reducible exact quiet_of_same' (hdig.out _))))
        go_wp2_with (go_at_call 229; refine (hnum.out _).mono ?_; rintro e w2 ⟨rfl, rfl⟩)
        go_quiet (fail)
        go_wp2
        go_ret
        exact ⟨aB HE.out.symm, hbt.trans ((below_drewN' _).trans (below_drewN' _))⟩
      ·have hnl : digits (bl t) < t.size := by have := (eF (bl t)).2 hall; rwa [au] at this
       have d4 : ((digits (bl t) : Int) != (t.size : Int)) = true := by rw [bne_iff_ne]; omega
       have HE : Hid (four (bl s) = false) := by rw [Hid, hT]; unfold lG; simp [hall]
       exact z42
     ·have d3 : decide (3 < (t.size : Int)) = true := by simp; omega
      have HE : Hid (four (bl s) = false) := by rw [Hid, hT]; unfold lG; rw [au]; simp [h3]
      exact z42
    ·have d1 : decide ((t.size : Int) < 1) = true := by simp; omega
     have HE : Hid (four (bl s) = false) := by rw [Hid, hT]; unfold lG; rw [au]; simp [show ¬ 1 ≤ t.size from h0]
     exact z42
   ·have HE : Hid (four (bl s) = true) := by rw [Hid, HP.out, List.drop_eq_nil_of_le (by omega)]; rfl
    go_wp2
    go_ret
    exact ⟨aB HE.out.symm, hbt⟩
 ·have e4 : ((L.length : Int) != 4) = true := by rw [bne_iff_ne]; omega
  have HE : Hid (four (bl s) = false) := by rw [Hid, EY.out]; simp [h4]
  clear h4
  go_enter Tryz.func209, Tryz.ntmps209
  go_wp2_with (go_at_call 210; refine (HS.out _).mono ?_; rintro e w1 ⟨v, rfl, hown, hbel⟩; obtain ⟨g, cap, rfl, hcells⟩ := mr hown hne; have HC := Lib.hid hcells; clear hcells hown)
  exact z150
theorem nO (s : ByteArray) (w : World) (hs : s.size ≤ 1073741824) :
 Calls Tryz.prog 183 #[.string s] w fun e w' => e = .returned (.bool (address (bl s))) ∧ Below w.heap.size w w' := by
 have HD : Hid (address (bl s) = (four (bl s) || bracket (bl s))) := rfl
 cases h4 : four (bl s) with
 | true =>
   have HE : Hid (address (bl s) = true) := by rw [Hid, HD.out, h4]; rfl
   go_enter Tryz.func183, Tryz.ntmps183
   go_wp2_with (go_at_call 205; refine (Fg s _ hs).mono ?_; rintro e w1 ⟨rfl, hb⟩)
   go_ret
   exact ⟨aB HE.out.symm, hb⟩
 | false =>
   have HE : Hid (address (bl s) = bracket (bl s)) := by rw [Hid, HD.out, h4]; rfl
   go_enter Tryz.func183, Tryz.ntmps183
   go_wp2_with (first | (go_at_call 205; refine (Fg s _ hs).mono ?_; rintro e w1 ⟨rfl, hb⟩) | (go_at_call 206; refine (FU s _ hs).mono ?_; rintro e w2 ⟨rfl, hb2⟩))
   go_ret
   exact ⟨aB HE.out.symm, below2 hb hb2⟩
theorem Df (s : ByteArray) (w : World) (hs : s.size ≤ 1073741824) :
 Calls Tryz.prog 190 #[.string s] w fun e w' => e = .returned (.bool (address (bl s))) ∧ Below w.heap.size w w' := by
 have HD : Hid (address (bl s) = (four (bl s) || bracket (bl s))) := rfl
 cases h4 : four (bl s) with
 | true =>
   have HE : Hid (address (bl s) = true) := by rw [Hid, HD.out, h4]; rfl
   go_enter Tryz.func190, Tryz.ntmps190
   go_wp2_with (go_at_call 209; refine (qP s _ hs).mono ?_; rintro e w1 ⟨rfl, hb⟩)
   go_ret
   exact ⟨aB HE.out.symm, hb⟩
 | false =>
   have HE : Hid (address (bl s) = bracket (bl s)) := by rw [Hid, HD.out, h4]; rfl
   go_enter Tryz.func190, Tryz.ntmps190
   go_wp2_with (first | (go_at_call 209; refine (qP s _ hs).mono ?_; rintro e w1 ⟨rfl, hb⟩) | (go_at_call 212; refine (CU s _ hs).mono ?_; rintro e w2 ⟨rfl, rfl⟩))
   go_ret
   exact ⟨aB HE.out.symm, hb⟩
theorem z105 {p : Prop} (h : p := by
 have HE : Hid (hname (bl s) = true) := by rw [Hid, HP.out, List.drop_eq_nil_of_le (by omega)]; rfl
 go_wp2
 go_ret
 exact ⟨aB HE.out.symm, below2 hb0 hbel⟩) : p := h
theorem name_any (s : ByteArray) (w : World) (hs : s.size ≤ 1073741824) :
 Calls Tryz.prog 182 #[.string s] w fun e w' => e = .returned (.bool (hname (bl s))) ∧ Below w.heap.size w w' := by
 have hdef : hname (bl s) = (decide (s.size ≤ 256) && !address (bl s) && labels (bl s)) := by unfold hname; rw [au]
 by_cases h256 : s.size ≤ 256
 ·cases ha : address (bl s) with
  | true =>
    have HE : Hid (hname (bl s) = false) := by rw [Hid, hdef, ha]; simp
    clear hdef
    go_enter Tryz.func182, Tryz.ntmps182
    go_wp2_with (go_at_call 183; refine (nO s _ hs).mono ?_; rintro e w1 ⟨rfl, hb⟩)
    go_ret
    exact ⟨aB HE.out.symm, hb⟩
  | false =>
    obtain ⟨L, hL⟩ : ∃ L, L = splitB 46 (bl s) := ⟨_, rfl⟩
    have hsp := fun (W : World) => Cb s 46 W hs
    have hne : L ≠ [] := by rw [hL]; exact jC _ _
    have hmem : Hid (∀ p ∈ L, p.length ≤ 1073741824) := fun p hp => by
        exact z92
    have HL : Hid (hname (bl s) = L.all label) := by rw [Hid, hdef, ha]; unfold labels; rw [← hL]; simp [h256]
    rw [← hL] at hsp
    have hlen : L.length ≤ 1073741825 := by rw [hL]; exact qN 46 s hs
    have HS := Lib.hid hsp
    clear hsp hL hdef
    go_enter Tryz.func182, Tryz.ntmps182
    go_wp2_with (first
        | (go_at_call 183; refine (nO s _ hs).mono ?_; rintro e w0 ⟨rfl, hb0⟩)
        | (go_at_call 203; refine (HS.out _).mono ?_; rintro e w1 ⟨v, rfl, hown, hbel⟩; obtain ⟨g, cap, rfl, hcells⟩ := mr hown hne; have HC := Lib.hid hcells; clear hcells hown))
    go_loop [4, 15] (fun _ i => ∃ k : Nat, k ≤ L.length ∧ i = .int .i64 k ∧ hname (bl s) = (L.drop k).all label) (fun _ i => L.length - (intOf i).toNat)
    case atStart => exact ⟨0, Nat.zero_le _, rfl, HL.out⟩
    case round =>
        obtain ⟨k, hk, rfl, hpre⟩ := hrel
        have HP := Lib.hid hpre
        clear hpre
        by_cases hlt : k < L.length
        ·have hcell := HC.out k hlt
         refine y51 ?_
         intro hD hml
         have hT : Hid (hname (bl s) = (label L[k] && (L.drop (k + 1)).all label)) := by rw [Hid, HP.out, hD, List.all_cons]
         have zD := fun (W : World) => JW (mkS L[k]) W (by rw [mJ]; exact hml)
         rw [lJ] at zD
         have HLA := Lib.hid zD
         clear zD hD hml HP
         cases hq : label L[k] with
         | true =>
           rw [hq] at hT HLA
           go_wp2_with (go_at_call 204; refine (HLA.out _).mono ?_; rintro e w2 ⟨rfl, rfl⟩)
           go_round
           case rel => exact ⟨k + 1, by omega, by go_num, by rw [hT.out]; simp⟩
           case measure => exact z67
         | false =>
           rw [hq] at hT HLA
           go_wp2_with (go_at_call 204; refine (HLA.out _).mono ?_; rintro e w2 ⟨rfl, rfl⟩)
           go_ret
           exact ⟨aB (by rw [hT.out]; rfl), below2 hb0 hbel⟩
        ·exact z105
 ·have HE : Hid (hname (bl s) = false) := by rw [Hid, hdef]; simp [h256]
  clear hdef
  go_enter Tryz.func182, Tryz.ntmps182
  exact z58
/-- an address in brackets has no labels -/
theorem Ae (l : Bytes) (h : bracket l = true) : labels l = false := by
 unfold bracket at h
 simp only [Bool.and_eq_true, decide_eq_true_eq] at h
 obtain ⟨⟨⟨⟨h4, _⟩, h91⟩, _⟩, _⟩ := h
 match l, h4 with
 | x :: r, _ =>
   have hx : x.toNat = 91 := by simpa using h91
   unfold labels
   cases hs : splitB 46 r with
   | nil => exact absurd hs (jC _ _)
   | cons a b =>
     have : splitB 46 (x :: r) = (x :: a) :: b := by rw [splitB, if_neg (by rw [hx]; decide), hs]
     rw [this, List.all_cons]
     have hf : label (x :: a) = false := by unfold label; simp [lH, hx]
     rw [hf]; rfl
theorem J7 (l : Bytes) : hname l = (decide (l.length ≤ 256) && !four l && labels l) := by
 unfold hname address
 cases hb : bracket l with
 | false => simp
 | true => simp [Ae l hb]
theorem Bf (s : ByteArray) (w : World) (hs : s.size ≤ 1073741824) :
 Calls Tryz.prog 189 #[.string s] w fun e w' => e = .returned (.bool (hname (bl s))) ∧ Below w.heap.size w w' := by
 have hdef : hname (bl s) = (decide (s.size ≤ 256) && !four (bl s) && labels (bl s)) := by rw [J7, au]
 by_cases h256 : s.size ≤ 256
 ·cases ha : four (bl s) with
  | true =>
    have HE : Hid (hname (bl s) = false) := by rw [Hid, hdef, ha]; simp
    clear hdef
    go_enter Tryz.func189, Tryz.ntmps189
    go_wp2_with (go_at_call 209; refine (qP s _ hs).mono ?_; rintro e w1 ⟨rfl, hb⟩)
    go_ret
    exact ⟨aB HE.out.symm, hb⟩
  | false =>
    obtain ⟨L, hL⟩ : ∃ L, L = splitB 46 (bl s) := ⟨_, rfl⟩
    have hsp := fun (W : World) => yI s 46 W hs
    have hne : L ≠ [] := by rw [hL]; exact jC _ _
    have hmem : Hid (∀ p ∈ L, p.length ≤ 1073741824) := fun p hp => by
        exact z92
    have HL : Hid (hname (bl s) = L.all label) := by rw [Hid, hdef, ha]; unfold labels; rw [← hL]; simp [h256]
    rw [← hL] at hsp
    have hlen : L.length ≤ 1073741825 := by rw [hL]; exact qN 46 s hs
    have HS := Lib.hid hsp
    clear hsp hL hdef
    go_enter Tryz.func189, Tryz.ntmps189
    go_wp2_with (first
        | (go_at_call 209; refine (qP s _ hs).mono ?_; rintro e w0 ⟨rfl, hb0⟩)
        | (go_at_call 210; refine (HS.out _).mono ?_; rintro e w1 ⟨v, rfl, hown, hbel⟩; obtain ⟨g, cap, rfl, hcells⟩ := mr hown hne; have HC := Lib.hid hcells; clear hcells hown))
    go_loop [4] (fun i => ∃ k : Nat, k ≤ L.length ∧ i = .int .i64 k ∧ hname (bl s) = (L.drop k).all label) (fun i => L.length - (intOf i).toNat)
    case atStart => exact ⟨0, Nat.zero_le _, rfl, HL.out⟩
    case round =>
        obtain ⟨k, hk, rfl, hpre⟩ := hrel
        have HP := Lib.hid hpre
        clear hpre
        by_cases hlt : k < L.length
        ·have hcell := HC.out k hlt
         refine y51 ?_
         intro hD hml
         have hT : Hid (hname (bl s) = (label L[k] && (L.drop (k + 1)).all label)) := by rw [Hid, HP.out, hD, List.all_cons]
         have zD := fun (W : World) => Gs (mkS L[k]) W (by rw [mJ]; exact hml)
         rw [lJ] at zD
         have HLA := Lib.hid zD
         clear zD hD hml HP
         cases hq : label L[k] with
         | true =>
           rw [hq] at hT HLA
           go_wp2_with (go_at_call 211; refine (HLA.out _).mono ?_; rintro e w2 ⟨rfl, rfl⟩)
           go_round
           case rel => exact ⟨k + 1, by omega, by go_num, by rw [hT.out]; simp⟩
           case measure => exact z67
         | false =>
           rw [hq] at hT HLA
           go_wp2_with (go_at_call 211; refine (HLA.out _).mono ?_; rintro e w2 ⟨rfl, rfl⟩)
           go_ret
           exact ⟨aB (by rw [hT.out]; rfl), below2 hb0 hbel⟩
        ·exact z105
 ·have HE : Hid (hname (bl s) = false) := by rw [Hid, hdef]; simp [h256]
  clear hdef
  go_enter Tryz.func189, Tryz.ntmps189
  exact z58
def fZ (l : Bytes) : Bool := decide (l.length ≤ 256) && (hname l || address l)
def pI (l : Bytes) : Int := if 256 < l.length then 3 else if hname (dK l) = true ∨ address (dK l) = true then 0 else 1
def mX (l : Bytes) : Bytes := if 256 < l.length then [] else if hname (dK l) = true ∨ address (dK l) = true then dK l else []
theorem Ld (s : ByteArray) (w : World) (hs : s.size ≤ 1073741824) :
 Calls Tryz.prog 153 #[.string s] w fun e w' => e = .returned (.tuple #[.string (mkS (mX (bl s))), .int .i64 (pI (bl s))]) ∧ Below w.heap.size w w' := by
 by_cases h256 : s.size ≤ 256
 ·have hlo := fun (W : World) => KY s W hs
  obtain ⟨t, ht⟩ : ∃ t, t = mkS (dK (bl s)) := ⟨_, rfl⟩
  have hbt : dK (bl s) = bl t := by rw [ht, lJ]
  have hts : t.size ≤ 1073741824 := by rw [ht, mJ]; unfold dK; simp [au]; omega
  rw [← ht] at hlo
  have hE : pI (bl s) = if hname (bl t) = true ∨ address (bl t) = true then 0 else 1 := by unfold pI; rw [au, if_neg (by omega), hbt]
  have hT : mX (bl s) = if hname (bl t) = true ∨ address (bl t) = true then bl t else [] := by unfold mX; rw [au, if_neg (by omega), hbt]
  have HL := Lib.hid hlo
  clear hlo ht hbt
  cases hn : hname (bl t) with
  | true =>
    rw [hn, if_pos (Or.inl rfl)] at hE hT
    have HE := Lib.hid hE
    have HT := Lib.hid hT
    clear hE hT
    go_enter Tryz.func153, Tryz.ntmps153
    go_wp2_with (first
        | (go_at_call 181; refine (HL.out _).mono ?_; rintro e w1 ⟨rfl, hb1⟩)
        | (go_at_call 182; refine (name_any t _ hts).mono ?_; rintro e w2 ⟨rfl, hb2⟩))
    go_ret2
    exact ⟨by rw [HE.out, HT.out, Dl]; rfl, below2 hb1 hb2⟩
  | false =>
    cases ha : address (bl t) with
    | true =>
      rw [hn, ha, if_pos (Or.inr rfl)] at hE hT
      have HE := Lib.hid hE
      have HT := Lib.hid hT
      clear hE hT
      go_enter Tryz.func153, Tryz.ntmps153
      go_wp2_with (first
       | (go_at_call 181; refine (HL.out _).mono ?_; rintro e w1 ⟨rfl, hb1⟩)
       | (go_at_call 182; refine (name_any t _ hts).mono ?_; rintro e w2 ⟨rfl, hb2⟩)
       | (go_at_call 183; refine (nO t _ hts).mono ?_; rintro e w3 ⟨rfl, hb3⟩))
      go_ret2
      exact ⟨by rw [HE.out, HT.out, Dl]; rfl, below2 (below2 hb1 hb2) hb3⟩
    | false =>
      rw [hn, ha] at hE hT
      have HE := Lib.hid hE
      have HT := Lib.hid hT
      clear hE hT
      go_enter Tryz.func153, Tryz.ntmps153
      go_wp2_with (first
       | (go_at_call 181; refine (HL.out _).mono ?_; rintro e w1 ⟨rfl, hb1⟩)
       | (go_at_call 182; refine (name_any t _ hts).mono ?_; rintro e w2 ⟨rfl, hb2⟩)
       | (go_at_call 183; refine (nO t _ hts).mono ?_; rintro e w3 ⟨rfl, hb3⟩))
      go_ret2
      exact ⟨by rw [HE.out, HT.out, if_neg (by simp), if_neg (by simp)]; rfl, below2 (below2 hb1 hb2) hb3⟩
 ·have HE : Hid (pI (bl s) = 3) := by unfold Hid pI; rw [au, if_pos (by omega)]
  have HT : Hid (mX (bl s) = []) := by unfold Hid mX; rw [au, if_pos (by omega)]
  go_enter Tryz.func153, Tryz.ntmps153
  go_wp2
  go_ret2
  exact ⟨by rw [HE.out, HT.out]; rfl, Below.refl _ _⟩
theorem yP (s : ByteArray) (w : World) (hs : s.size ≤ 1073741824) :
 Calls Tryz.prog 158 #[.string s] w fun e w' => e = .returned (.bool (fZ (bl s))) ∧ Below w.heap.size w w' := by
 have hd : fZ (bl s) = (decide (s.size ≤ 256) && (hname (bl s) || address (bl s))) := by unfold fZ; rw [au]
 by_cases h256 : s.size ≤ 256
 ·cases hn : hname (bl s) with
  | true =>
    have HE : Hid (fZ (bl s) = true) := by rw [Hid, hd, hn]; simp [h256]
    clear hd
    go_enter Tryz.func158, Tryz.ntmps158
    go_wp2_with (go_at_call 189; refine (Bf s _ hs).mono ?_; rintro e w1 ⟨rfl, hb1⟩)
    go_ret
    exact ⟨aB HE.out.symm, hb1⟩
  | false =>
    have HE : Hid (fZ (bl s) = address (bl s)) := by rw [Hid, hd, hn]; simp [h256]
    clear hd
    go_enter Tryz.func158, Tryz.ntmps158
    go_wp2_with (first
        | (go_at_call 189; refine (Bf s _ hs).mono ?_; rintro e w1 ⟨rfl, hb1⟩)
        | (go_at_call 190; refine (Df s _ hs).mono ?_; rintro e w2 ⟨rfl, hb2⟩))
    go_ret
    exact ⟨aB HE.out.symm, below2 hb1 hb2⟩
 ·have HE : Hid (fZ (bl s) = false) := by rw [Hid, hd]; simp [h256]
  clear hd
  go_enter Tryz.func158, Tryz.ntmps158
  exact z58
/-! ### what is fZ has no capitals -/
theorem EL {c : UInt8} (h : ¬ (65 ≤ c.toNat ∧ c.toNat ≤ 90)) : lowerB c = c := by unfold lowerB; rw [if_neg h]
theorem oO (c : UInt8) : ∀ (l : Bytes) (x : UInt8), x ∈ l → x.toNat = c.toNat ∨ ∃ p ∈ splitB c l, x ∈ p
 | [], x, h => by simp at h
 | y :: r, x, h => by
   by_cases hy : y.toNat = c.toNat
   ·rcases List.mem_cons.1 h with rfl | h
    ·exact Or.inl hy
    ·rcases oO c r x h with h1 | ⟨p, hp, hx⟩
     ·exact Or.inl h1
     ·exact Or.inr ⟨p, by rw [splitB, if_pos hy]; exact List.mem_cons_of_mem _ hp, hx⟩
   ·cases hs : splitB c r with
    | nil => exact absurd hs (jC c r)
    | cons a b =>
      have e : splitB c (y :: r) = (y :: a) :: b := by rw [splitB, if_neg hy, hs]
      rw [e]
      rcases List.mem_cons.1 h with rfl | h
      ·exact Or.inr ⟨x :: a, by simp, by simp⟩
      ·rcases oO c r x h with h1 | ⟨p, hp, hx⟩
       ·exact Or.inl h1
       ·rw [hs] at hp
        rcases List.mem_cons.1 hp with rfl | hp
        ·exact Or.inr ⟨y :: p, by simp, by simp [hx]⟩
        ·exact Or.inr ⟨p, by simp [hp], hx⟩
theorem qg {l : Bytes} (h : ∀ x ∈ l, ¬ (65 ≤ x.toNat ∧ x.toNat ≤ 90)) : dK l = l := by
 unfold dK
 have : ∀ x ∈ l, lowerB x = id x := fun x hx => EL (h x hx)
 rw [List.map_congr_left this]; simp
theorem qf {l : Bytes} (h : hname l = true) : dK l = l := by
 unfold hname labels at h
 simp only [Bool.and_eq_true] at h
 refine qg fun x hx => ?_
 rcases oO 46 l x hx with h1 | ⟨p, hp, hxp⟩
 ·rw [h1]; decide
 ·have hl := List.all_eq_true.1 h.2 p hp
  unfold label at hl
  simp only [Bool.and_eq_true] at hl
  have := List.all_eq_true.1 hl.1.1.2 x hxp
  unfold lH at this
  simp at this
  omega
theorem nU {l : Bytes} (h : address l = true) : dK l = l := by
 unfold address at h
 simp only [Bool.or_eq_true] at h
 rcases h with h | h
 ·unfold four at h
  simp only [Bool.and_eq_true] at h
  refine qg fun x hx => ?_
  rcases oO 46 l x hx with h1 | ⟨p, hp, hxp⟩
  ·rw [h1]; decide
  ·have hl := List.all_eq_true.1 h.2 p hp
   unfold jO at hl
   simp only [Bool.and_eq_true] at hl
   have := mV (List.all_eq_true.1 hl.1.1.2 x hxp)
   omega
 ·unfold bracket at h
  simp only [Bool.and_eq_true, decide_eq_true_eq] at h
  obtain ⟨⟨⟨⟨h4, _⟩, h91⟩, h93⟩, hm⟩ := h
  refine qg fun x hx => ?_
  obtain ⟨i, hi, rfl⟩ := List.mem_iff_getElem.1 hx
  by_cases h0 : i = 0
  ·subst h0
   have hh : l.head? = some l[0] := by rw [List.head?_eq_getElem?]; simp
   rw [hh] at h91
   have : l[0].toNat = 91 := by simpa using h91
   omega
  ·by_cases h1 : i = l.length - 1
   ·subst h1
    have hh : l.getLast? = some l[l.length - 1] := by rw [List.getLast?_eq_getElem?]; simp
    rw [hh] at h93
    have : l[l.length - 1].toNat = 93 := by simpa using h93
    omega
   ·have hb : jm l[i] = true := by
     refine List.all_eq_true.1 hm _ (List.mem_iff_getElem.2 ⟨i - 1, by simp; omega, ?_⟩)
     rw [List.getElem_take, List.getElem_drop]
     simp only [show 1 + (i - 1) = i by omega]
    unfold jm at hb
    simp at hb
    omega
theorem KH (l : Bytes) : (decide (pI l = 0) && decide (mX l = l)) = fZ l := by
 unfold pI mX fZ
 by_cases h : 256 < l.length
 ·simp [h, show ¬ l.length ≤ 256 by omega]
 ·by_cases hc : hname (dK l) = true ∨ address (dK l) = true
  ·have e : dK (dK l) = dK l := by rcases hc with h1 | h1; exact qf h1; exact nU h1
   simp only [if_neg h, if_pos hc, show l.length ≤ 256 by omega, decide_true, Bool.true_and]
   rw [Bool.eq_iff_iff, decide_eq_true_eq, Bool.or_eq_true]
   constructor
   ·intro e2; rw [e2] at hc; exact hc
   ·rintro (h1 | h1)
    ·exact qf h1
    ·exact nU h1
  ·have hc2 : ¬ (hname l = true ∨ address l = true) := by
        rintro (h1 | h1)
        ·exact hc (Or.inl (by rw [qf h1]; exact h1))
        ·exact hc (Or.inr (by rw [nU h1]; exact h1))
   simp only [if_neg h, if_neg hc]
   have h3 : hname l = false := by simpa using fun x => hc2 (Or.inl x)
   have h4 : address l = false := by simpa using fun x => hc2 (Or.inr x)
   simp [h3, h4]
/-- a text that is short, without controls, some signs, and blanks at its ends -/
def fC (most : Nat) (signs l : Bytes) : Bool := decide (l.length ≤ most) && (!control l && (decide (trim l = l) && signs.all fun c => decide (eu c l = none)))
theorem Ov (c : UInt8) (l : Bytes) : (nX c l).2.2 = !decide (eu c l = none) := by
 unfold nX; cases eu c l <;> simp
theorem F7 (n a b : Int) (w : World) : Calls Tryz.prog 154 #[.int .i64 n, .int .i64 a, .int .i64 b] w fun e w' => e = .returned (.bool (decide (a ≤ n) && decide (n ≤ b))) ∧ w = w' := by
 go_enter Tryz.func154, Tryz.ntmps154
 go_wp2
 all_goals
  go_ret
  exact ⟨aB (by rw [Bool.eq_iff_iff]; simp <;> omega), rfl⟩
theorem Bo (s : ByteArray) (most : Nat) (A : Nat) (signs : Bytes) (w : World) (hs : s.size ≤ 1073741824) (hm : most ≤ 1073741824) (hn : signs.length ≤ 1000) (hb : BytesAt w A 0 signs) :
 Calls Tryz.prog 155 #[.string s, .int .i64 most, .slice (some ⟨A, 0, none⟩) signs.length signs.length] w fun e w' => e = .returned (.bool (fC most signs (bl s))) ∧ Below w.heap.size w w' := by
 have hd : fC most signs (bl s) = (decide (s.size ≤ most) && (!control (bl s) && (decide (trim (bl s) = bl s) && signs.all fun c => decide (eu c (bl s) = none)))) := by unfold fC; rw [au]
 have zG := fun (W : World) => F5 s W (by unfold maxLen; omega)
 have Dy := fun (W : World) => Nv s W (by unfold maxLen; omega)
 have hcut := fun (c : UInt8) (W : World) => Jb s c W hs
 have htq : ((mkS (trim (bl s))).toList == s.toList) = decide (trim (bl s) = bl s) := by rw [lV, lJ]
 by_cases h1 : s.size ≤ most
 ·cases h2 : control (bl s) with
  | true =>
    have HE : Hid (fC most signs (bl s) = false) := by rw [Hid, hd, h2]; simp
    rw [h2] at zG
    have HC := Lib.hid zG
    clear hd zG Dy hcut htq
    go_enter Tryz.func155, Tryz.ntmps155
    go_wp2_with (go_at_call 184; refine (HC.out _).mono ?_; rintro e w1 ⟨rfl, rfl⟩)
    go_ret
    exact ⟨aB HE.out.symm, Below.refl _ _⟩
  | false =>
    rw [h2] at zG hd
    have HC := Lib.hid zG
    by_cases h3 : trim (bl s) = bl s
    ·rw [decide_eq_true h3] at htq
     have HL : Hid (fC most signs (bl s) = signs.all fun c => decide (eu c (bl s) = none)) := by rw [Hid, hd]; simp [h1, h3]
     have HT := Lib.hid Dy
     have HK := Lib.hid hcut
     clear hd zG Dy hcut h3
     have hdm : decide (most < s.size) = false := by simp; omega
     go_enter Tryz.func155, Tryz.ntmps155
     go_wp2_with (first | (go_at_call 184; refine (HC.out _).mono ?_; rintro e w1 ⟨rfl, rfl⟩) | (go_at_call 185; refine (HT.out _).mono ?_; rintro e w1 ⟨rfl, rfl⟩))
     go_loopw [8, 9, 10, 11, 28] (fun _ _ _ _ i wr => ∃ k : Nat, k ≤ signs.length ∧ i = .int .i64 k ∧ fC most signs (bl s) = ((signs.drop k).all fun c => decide (eu c (bl s) = none)) ∧ Below w.heap.size w wr) (fun _ _ _ _ i _ => signs.length - (intOf i).toNat)
     case atStart => exact ⟨0, Nat.zero_le _, rfl, HL.out, Below.refl _ _⟩
     case round =>
        obtain ⟨k, hk, rfl, hpre, hbel⟩ := hrel
        have HP := Lib.hid hpre
        clear hpre
        by_cases hlt : k < signs.length
        ·have hcell := kept hbel (hb.cell hlt)
         rw [Nat.zero_add] at hcell
         have hD : signs.drop k = signs[k] :: signs.drop (k + 1) := List.drop_eq_getElem_cons hlt
         have hT : Hid (fC most signs (bl s) = (decide (eu signs[k] (bl s) = none) && ((signs.drop (k + 1)).all fun c => decide (eu c (bl s) = none)))) := by rw [Hid, HP.out, hD, List.all_cons]
         have his := Ov signs[k] (bl s)
         have hk0 := fun (W : World) => HK.out signs[k] W
         generalize signs[k] = c at *
         generalize nX c (bl s) = x at his hk0
         obtain ⟨p, q, b⟩ := x
         simp only at his hk0
         rw [his] at hk0
         clear hD HP his
         by_cases hf : eu c (bl s) = none
         ·rw [hf] at hT hk0
          have HKK := Lib.hid hk0
          clear hk0 hf
          go_wp2_with (go_at_call 186; refine (HKK.out _).mono ?_; rintro e w1 ⟨rfl, hb1⟩)
          go_roundw
          case rel => exact ⟨k + 1, by omega, by go_num, by rw [hT.out]; simp, below2 hbel hb1⟩
          case measure => exact z67
         ·rw [decide_eq_false hf] at hT hk0
          have HKK := Lib.hid hk0
          clear hk0 hf
          go_wp2_with (go_at_call 186; refine (HKK.out _).mono ?_; rintro e w1 ⟨rfl, hb1⟩)
          go_ret
          exact ⟨aB (by rw [hT.out]; rfl), below2 hbel hb1⟩
        ·have HE : Hid (fC most signs (bl s) = true) := by rw [Hid, HP.out, List.drop_eq_nil_of_le (by omega)]; rfl
         go_wp2
         exact z150
    ·rw [decide_eq_false h3] at htq
     have HE : Hid (fC most signs (bl s) = false) := by rw [Hid, hd]; simp [h3]
     have HT := Lib.hid Dy
     clear hd zG Dy hcut h3
     go_enter Tryz.func155, Tryz.ntmps155
     go_wp2_with (first | (go_at_call 184; refine (HC.out _).mono ?_; rintro e w1 ⟨rfl, rfl⟩) | (go_at_call 185; refine (HT.out _).mono ?_; rintro e w1 ⟨rfl, rfl⟩))
     go_ret
     exact ⟨aB HE.out.symm, Below.refl _ _⟩
 ·have HE : Hid (fC most signs (bl s) = false) := by rw [Hid, hd]; simp [h1]
  clear hd zG Dy hcut htq
  go_enter Tryz.func155, Tryz.ntmps155
  exact z58
/-- the reference's test of a text -/
def lF (l : Bytes) : Bool := !control l && (decide (eu 59 l = none) && decide (trim l = l))
theorem Fq (l : Bytes) (c : UInt8) : decide (kN l c < 0) = decide (eu c l = none) := by
 unfold kN; cases eu c l <;> simp
theorem yA (s : ByteArray) (w : World) (hs : s.size ≤ 1073741824) :
 Calls Tryz.prog 156 #[.string s] w fun e w' => e = .returned (.bool (lF (bl s))) ∧ w = w' := by
 have zG := fun (W : World) => Dc s W (by unfold maxLen; omega)
 have Dy := fun (W : World) => Jr s W (by unfold maxLen; omega)
 have Rh := fun (W : World) => Bh s 59 W (by unfold maxLen; omega)
 have htq : ((mkS (trim (bl s))).toList == s.toList) = decide (trim (bl s) = bl s) := by rw [lV, lJ]
 have hfl := Fq (bl s) 59
 have hd : lF (bl s) = (!control (bl s) && (decide (eu 59 (bl s) = none) && decide (trim (bl s) = bl s))) := rfl
 generalize kN (bl s) 59 = fi at *
 have HC := Lib.hid zG
 have HT := Lib.hid Dy
 have HF := Lib.hid Rh
 clear zG Dy Rh
 cases h1 : control (bl s) with
 | true =>
   have HE : Hid (lF (bl s) = false) := by rw [Hid, hd, h1]; rfl
   rw [h1] at HC
   clear hd htq hfl
   go_enter Tryz.func156, Tryz.ntmps156
   go_wp2_with (go_at_call 187; refine (HC.out _).mono ?_; rintro e w1 ⟨rfl, rfl⟩)
   go_ret
   exact ⟨aB HE.out.symm, rfl⟩
 | false =>
   rw [h1] at HC hd
   by_cases h2 : fi < 0
   ·have h2' : eu 59 (bl s) = none := by simpa [h2] using hfl
    have HE : Hid (lF (bl s) = decide (trim (bl s) = bl s)) := by rw [Hid, hd, h2']; simp
    have HQ := Lib.hid htq
    clear hd htq hfl h2'
    go_enter Tryz.func156, Tryz.ntmps156
    go_wp2_with (first
        | (go_at_call 187; refine (HC.out _).mono ?_; rintro e w1 ⟨rfl, rfl⟩)
        | (go_at_call 157; refine (HF.out _).mono ?_; rintro e w1 ⟨rfl, rfl⟩)
        | (go_at_call 188; refine (HT.out _).mono ?_; rintro e w1 ⟨rfl, rfl⟩))
    go_ret
    exact ⟨aB (by rw [HE.out, ← HQ.out]), rfl⟩
   ·have h2' : ¬ eu 59 (bl s) = none := by simpa [h2] using hfl
    have HE : Hid (lF (bl s) = false) := by rw [Hid, hd]; simp [h2']
    clear hd htq hfl h2'
    go_enter Tryz.func156, Tryz.ntmps156
    go_wp2_with (first
        | (go_at_call 187; refine (HC.out _).mono ?_; rintro e w1 ⟨rfl, rfl⟩)
        | (go_at_call 157; refine (HF.out _).mono ?_; rintro e w1 ⟨rfl, rfl⟩))
    go_ret
    exact ⟨aB HE.out.symm, rfl⟩
end Go.Proofs.YtdlmbflhbecggaaGreat
