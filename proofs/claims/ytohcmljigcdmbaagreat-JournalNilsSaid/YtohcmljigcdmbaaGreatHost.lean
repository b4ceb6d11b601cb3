/- Package host and its reference compute the plain functions of Defs. Conditions: texts of at most 2^30 bytes. -/
import Derived.Test.YtohcmljigcdmbaaGreatRefA
set_option linter.unusedSimpArgs false
set_option linter.unusedVariables false
set_option linter.unnecessarySimpa false
set_option maxHeartbeats 16000000
set_option maxRecDepth 100000
namespace Go.Proofs.YtohcmljigcdmbaaGreat
open Go.RowKit
def signAt (c : UInt8) (e : Bool) : Bool := isSign c && !(e && isDash c)
theorem sign_any (c : UInt8) (b : Bool) (w : World) : Calls Tryz.prog 198 #[.int .u8 c.toNat, .bool b] w fun e w' => e = .returned (.bool (signAt c b)) ∧ w = w' := by
 by_cases h45 : c.toNat = 45
 ·have h1 : ((c.toNat : Int) == 45) = true := beq_iff_eq.2 (by omega)
  have HC := Lib.hid h45
  cases b with
  | true =>
    go_enter Tryz.func198, Tryz.ntmps198
    go_wp2
    go_ret
    exact ⟨ret_bool (by unfold signAt isDash; simp [HC.out]), rfl⟩
  | false =>
    go_enter Tryz.func198, Tryz.ntmps198
    go_wp2
    go_ret
    exact ⟨ret_bool (by unfold signAt isSign; simp [HC.out]), rfl⟩
 ·have h1 : ((c.toNat : Int) == 45) = false := beq_eq_false_iff_ne.2 (by omega)
  have HC := Lib.hid h45
  have HD : Hid (isDash c = false) := by unfold Hid isDash; simp [h45]
  clear h45
  go_enter Tryz.func198, Tryz.ntmps198
  go_wp2
  all_goals
   go_ret
   exact ⟨ret_bool (by have h9 := HC.out; unfold signAt; rw [HD.out]; unfold isSign; rw [Bool.eq_iff_iff]; simp; (first | omega | (simp only [beq_iff_eq, beq_eq_false_iff_ne, ne_eq, bne_iff_ne, bne_eq_false_iff_eq, decide_eq_true_eq, decide_eq_false_iff_not, Bool.not_eq_eq_eq_not, Bool.not_true, Bool.not_false] at *; omega))), rfl⟩
/-- what is left of a label's test -/
def labelFrom (l : Bytes) (k : Nat) : Bool := (l.drop k).all isSign && (decide (0 < k) || !(l.head?.any isDash)) && (decide (k = l.length) || !(l.getLast?.any isDash))
theorem labelFrom_step (l : Bytes) (k : Nat) (h : k < l.length) : labelFrom l k = (signAt l[k] (decide (k = 0) || decide (k = l.length - 1)) && labelFrom l (k + 1)) := by
 unfold labelFrom signAt
 rw [List.drop_eq_getElem_cons h, List.all_cons]
 have hh : l.head? = some l[0] := by rw [List.head?_eq_getElem?]; simp
 have hg : l.getLast? = some l[l.length - 1] := by rw [List.getLast?_eq_getElem?]; simp
 rw [hh, hg]
 simp only [Option.any_some]
 rw [Bool.eq_iff_iff]
 by_cases h0 : k = 0
 ·subst h0
  by_cases h1 : l.length - 1 = 0
  ·have e1 : l.length = 1 := by omega
   simp only [e1]
   simp [e1]
   intros; grind
  ·have e1 : ¬ (0 = l.length - 1) := by omega
   have e2 : ¬ (0 = l.length) := by omega
   have e3 : ¬ (0 + 1 = l.length) := by omega
   simp [e1, e2, e3]
   grind
 ·by_cases h1 : k = l.length - 1
  ·subst h1
   have e2 : ¬ (l.length - 1 = l.length) := by omega
   have e3 : l.length - 1 + 1 = l.length := by omega
   simp [h0, e2, e3]
   grind
  ·have e2 : ¬ (k = l.length) := by omega
   have e3 : ¬ (k + 1 = l.length) := by omega
   simp [h0, h1, e2, e3]
   grind
theorem label_eq (l : Bytes) (h1 : 1 ≤ l.length) (h2 : l.length ≤ 63) : label l = labelFrom l 0 := by
 unfold label labelFrom
 have e : ¬ (0 = l.length) := by omega
 simp [h1, h2, e]
theorem labelFrom_all (l : Bytes) (h : 0 < l.length) : labelFrom l l.length = true := by
 unfold labelFrom; simp [h]
theorem bl_get (s : ByteArray) (k : Nat) (h : k < s.size) : (bl s)[k]'(by rw [bl_length]; exact h) = s[k] := rfl
theorem label_any (s : ByteArray) (w : World) (hs : s.size ≤ 1073741824) :
 Calls Tryz.prog 176 #[.string s] w fun e w' => e = .returned (.bool (label (bl s))) ∧ w = w' := by
 by_cases h0 : 0 < s.size
 ·have he := str_ne h0
  have he' := str_ne' h0
  by_cases h63 : s.size ≤ 63
  ·have HL := Lib.hid (label_eq (bl s) (by rw [bl_length]; omega) (by rw [bl_length]; omega))
   go_enter Tryz.func176, Tryz.ntmps176
   go_wp2
   go_loop [3, 13] (fun _ i => ∃ k : Nat, k ≤ s.size ∧ i = .int .i64 k ∧ label (bl s) = labelFrom (bl s) k) (fun _ i => s.size - (intOf i).toNat)
   case atStart => exact ⟨0, Nat.zero_le _, rfl, HL.out⟩
   case round =>
        obtain ⟨k, hk, rfl, hpre⟩ := hrel
        by_cases hlt : k < s.size
        ·have hst := labelFrom_step (bl s) k hlt
         rw [bl_get s k hlt, bl_length] at hst
         have HS : Hid (label (bl s) = (signAt s[k] (decide (k = 0) || decide (k = s.size - 1)) && labelFrom (bl s) (k + 1))) := by rw [Hid, hpre, hst]
         clear hst hpre
         by_cases hk0 : k = 0
         ·have e0 : ((k : Int) == 0) = true := beq_iff_eq.2 (by omega)
          have HK : Hid ((decide (k = 0) || decide (k = s.size - 1)) = true) := by simp [Hid, hk0]
          have hk0' : k < 1 := by omega
          clear hk0
          rw [HK.out] at HS
          cases hq : signAt s[k] true with
          | true =>
            rw [hq] at HS
            go_wp2_with (go_at_call 198; refine (sign_any _ true _).mono ?_; rintro e w1 ⟨rfl, rfl⟩)
            go_round
            case rel => exact ⟨k + 1, by omega, by go_num, by rw [HS.out]; simp⟩
            case measure => simp [intOf] <;> omega
          | false =>
            rw [hq] at HS
            go_wp2_with (go_at_call 198; refine (sign_any _ true _).mono ?_; rintro e w1 ⟨rfl, rfl⟩)
            go_ret
            exact ⟨ret_bool (by rw [HS.out]; simp), rfl⟩
         ·have e0 : ((k : Int) == 0) = false := beq_eq_false_iff_ne.2 (by omega)
          by_cases hk1 : k = s.size - 1
          ·have e1 : ((k : Int) == (s.size : Int) - 1) = true := beq_iff_eq.2 (by omega)
           have HK : Hid ((decide (k = 0) || decide (k = s.size - 1)) = true) := by simp [Hid, hk1]
           clear hk0 hk1
           rw [HK.out] at HS
           cases hq : signAt s[k] true with
           | true =>
             rw [hq] at HS
             go_wp2_with (go_at_call 198; refine (sign_any _ true _).mono ?_; rintro e w1 ⟨rfl, rfl⟩)
             go_round
             case rel => exact ⟨k + 1, by omega, by go_num, by rw [HS.out]; simp⟩
             case measure => simp [intOf] <;> omega
           | false =>
             rw [hq] at HS
             go_wp2_with (go_at_call 198; refine (sign_any _ true _).mono ?_; rintro e w1 ⟨rfl, rfl⟩)
             go_ret
             exact ⟨ret_bool (by rw [HS.out]; simp), rfl⟩
          ·have e1 : ((k : Int) == (s.size : Int) - 1) = false := beq_eq_false_iff_ne.2 (by omega)
           have HK : Hid ((decide (k = 0) || decide (k = s.size - 1)) = false) := by simp [Hid, hk0, hk1]
           clear hk0 hk1
           rw [HK.out] at HS
           cases hq : signAt s[k] false with
           | true =>
             rw [hq] at HS
             go_wp2_with (go_at_call 198; refine (sign_any _ false _).mono ?_; rintro e w1 ⟨rfl, rfl⟩)
             go_round
             case rel => exact ⟨k + 1, by omega, by go_num, by rw [HS.out]; simp⟩
             case measure => simp [intOf] <;> omega
           | false =>
             rw [hq] at HS
             go_wp2_with (go_at_call 198; refine (sign_any _ false _).mono ?_; rintro e w1 ⟨rfl, rfl⟩)
             go_ret
             exact ⟨ret_bool (by rw [HS.out]; simp), rfl⟩
        ·have HE : Hid (label (bl s) = true) := by
          have : k = (bl s).length := by rw [bl_length]; omega
          rw [Hid, hpre, this]; exact labelFrom_all _ (by rw [bl_length]; exact h0)
         clear hpre
         go_wp2
         go_ret
         exact ⟨ret_bool HE.out.symm, rfl⟩
  ·have HE : Hid (label (bl s) = false) := by
        unfold Hid label; rw [bl_length]; simp [show ¬ s.size ≤ 63 from h63]
   go_enter Tryz.func176, Tryz.ntmps176
   go_wp2
   go_ret
   exact ⟨ret_bool HE.out.symm, rfl⟩
 ·obtain rfl : s = ByteArray.empty := bl_inj (bl_nil h0)
  have HE : Hid (label (bl ByteArray.empty) = false) := rfl
  go_enter Tryz.func176, Tryz.ntmps176
  go_wp2
  go_ret
  exact ⟨ret_bool HE.out.symm, rfl⟩
theorem head_bl (s : ByteArray) (h : 0 < s.size) : (bl s).head? = some s[0] := by rw [List.head?_eq_getElem?, List.getElem?_eq_getElem (by rw [bl_length]; exact h)]; rfl
theorem last_bl (s : ByteArray) (h : 0 < s.size) : (bl s).getLast? = some (s[s.size - 1]'(by omega)) := by
 rw [List.getLast?_eq_getElem?, List.getElem?_eq_getElem (by rw [bl_length]; omega)]; rfl
/-- the middle of an address in brackets -/
theorem bracket_mid (s : ByteArray) (h4 : 4 ≤ s.size) : ((bl s).drop 1).take ((bl s).length - 2) = bl (s.extract 1 (s.size - 1)) := by
 rw [bl_extract, bl_length, List.drop_take]; congr 1
theorem bracket_any (s : ByteArray) (w : World) (hs : s.size ≤ 1073741824) :
 Calls Tryz.prog 178 #[.string s] w fun e w' => e = .returned (.bool (bracket (bl s))) ∧ Below w.heap.size w w' := by
 by_cases h4 : 4 ≤ s.size
 ·by_cases h47 : s.size ≤ 47
  ·have h0 : 0 < s.size := by omega
   have hh := head_bl s h0
   have hg := last_bl s h0
   by_cases ha : s[0].toNat = 91
   ·have e1 : ((s[0].toNat : Int) != 91) = false := by rw [bne_eq_false_iff_eq]; omega
    by_cases hb : s[s.size - 1].toNat = 93
    ·have e2 : ((s[s.size - 1].toNat : Int) != 93) = false := by rw [bne_eq_false_iff_eq]; omega
     have HM : Hid (bracket (bl s) = (bl (s.extract 1 (s.size - 1))).all isHexB) := by
      unfold Hid bracket
      rw [bracket_mid s h4, hh, hg, bl_length]
      simp [ha, hb, h4, h47]
     obtain ⟨cap, w1, hconv, hb1, hz1, hcap, hby, hfr⟩ := conv_str (P := Tryz.prog) 9 82 5 Tryz.underlying9 Tryz.underlying82 Tryz.underlying5 w (s.extract 1 (s.size - 1))
     have hts : Hid ((s.extract 1 (s.size - 1)).size = s.size - 1 - 1) := by unfold Hid; simp <;> omega
     have hsx : (1 : Int) ≤ (s.size : Int) - 1 := by omega
     have hsy : (s.size : Int) - 1 ≤ (s.size : Int) := by omega
     have hsz : (0 : Int) ≤ (s.size : Int) - 1 := by omega
     have hsw : ((s.size : Int) - 1).toNat = s.size - 1 := by omega
     clear hh hg ha hb hfr hz1
     go_enter Tryz.func178, Tryz.ntmps178
     go_wp2
     clear hconv
     generalize s.extract 1 (s.size - 1) = t at *
     go_loop [4, 33] (fun _ i => ∃ k : Nat, k ≤ s.size - 1 - 1 ∧ i = .int .i64 k ∧ bracket (bl s) = ((bl t).drop k).all isHexB) (fun _ i => s.size - (intOf i).toNat)
     case atStart => exact ⟨0, Nat.zero_le _, rfl, HM.out⟩
     case round =>
      obtain ⟨k, hk, rfl, hpre⟩ := hrel
      have HP := Lib.hid hpre
      clear hpre
      by_cases hlt' : k < s.size - 1 - 1
      ·have hlt : k < t.size := by rw [hts.out]; exact hlt'
       have HD := Lib.hid (drop_cons t k hlt)
       have hck := hby k hlt
       rw [bl_get t k hlt, Nat.zero_add] at hck
       have HY : Hid (isHexB t[k] = true → bracket (bl s) = ((bl t).drop (k + 1)).all isHexB) := fun h => by rw [HP.out, HD.out]; simp [h]
       have HN : Hid (isHexB t[k] = false → bracket (bl s) = false) := fun h => by rw [HP.out, HD.out]; simp [h]
       clear HP HD
       generalize t[k] = c at *
       clear hby
       go_wp2
       all_goals first
            | (go_ret; exact ⟨ret_bool (HN.out (by unfold isHexB; rw [Bool.eq_iff_iff]; simp; (first | omega | (simp only [beq_iff_eq, beq_eq_false_iff_ne, ne_eq, bne_iff_ne, bne_eq_false_iff_eq, decide_eq_true_eq, decide_eq_false_iff_not, Bool.not_eq_eq_eq_not, Bool.not_true, Bool.not_false] at *; omega)))).symm, hb1⟩)
            | (go_round
               case rel => exact ⟨k + 1, by omega, by go_num, HY.out (by unfold isHexB; simp; (first | omega | (simp only [beq_iff_eq, beq_eq_false_iff_ne, ne_eq, bne_iff_ne, bne_eq_false_iff_eq, decide_eq_true_eq, decide_eq_false_iff_not, Bool.not_eq_eq_eq_not, Bool.not_true, Bool.not_false] at *; omega)))⟩
               case measure => simp [intOf] <;> omega)
      ·have HD := Lib.hid (drop_all t k (by rw [hts.out]; exact hlt'))
       go_wp2
       go_ret
       exact ⟨ret_bool (by rw [HP.out, HD.out]; rfl), hb1⟩
    ·have e2 : ((s[s.size - 1].toNat : Int) != 93) = true := by rw [bne_iff_ne]; omega
     have HE : Hid (bracket (bl s) = false) := by unfold Hid bracket; rw [hg]; simp [hb]
     clear hh hg hb ha
     go_enter Tryz.func178, Tryz.ntmps178
     go_wp2
     go_ret
     exact ⟨ret_bool HE.out.symm, Below.refl _ _⟩
   ·have e1 : ((s[0].toNat : Int) != 91) = true := by rw [bne_iff_ne]; omega
    have HE : Hid (bracket (bl s) = false) := by unfold Hid bracket; rw [hh]; simp [ha]
    clear hh hg ha
    go_enter Tryz.func178, Tryz.ntmps178
    go_wp2
    go_ret
    exact ⟨ret_bool HE.out.symm, Below.refl _ _⟩
  ·have HE : Hid (bracket (bl s) = false) := by unfold Hid bracket; rw [bl_length]; simp [show ¬ s.size ≤ 47 from h47]
   go_enter Tryz.func178, Tryz.ntmps178
   go_wp2
   go_ret
   exact ⟨ret_bool HE.out.symm, Below.refl _ _⟩
 ·have HE : Hid (bracket (bl s) = false) := by unfold Hid bracket; rw [bl_length]; simp [show ¬ 4 ≤ s.size from h4]
  go_enter Tryz.func178, Tryz.ntmps178
  go_wp2
  go_ret
  exact ⟨ret_bool HE.out.symm, Below.refl _ _⟩
/-- a slice of strings that the callee made, read -/
theorem strs_open {w : World} {base : Nat} {E : TypeId} {v : Value} {L : List Bytes} (h : w.ownsRow base E 1 v L.length (strVals L)) (hne : L ≠ []) :
 ∃ g cap, v = .slice (some ⟨g, 0, none⟩) L.length cap ∧ ∀ j (hj : j < L.length), w.cell? ⟨g, j, none⟩ = some (.string (mkS L[j])) := by
 have hc := fun g (hg : v.ownBlock = some g) => h.cells hg
 rcases h.2 with ⟨rfl, hn⟩ | ⟨g, cap, cur, rfl, rest⟩
 ·exact absurd (List.length_eq_zero_iff.1 hn) hne
 ·refine ⟨g, cap, rfl, fun j hj => ?_⟩
  have := hc g rfl j (.string (mkS L[j])) (by simp [strVals, hj])
  unfold Addr.add at this
  split at this
  ·rename_i h0; subst h0; exact this
  ·simpa using this
theorem split_len (c : UInt8) (s : ByteArray) (hs : s.size ≤ 1073741824) : (splitB c (bl s)).length ≤ 1073741825 := by
 have := splitB_length c (bl s); rw [bl_length] at this; omega
theorem splitB_mem_len (c : UInt8) : ∀ (l : Bytes) (p : Bytes), p ∈ splitB c l → p.length ≤ l.length
 | [], p, h => by simp [splitB] at h; subst h; simp
 | x :: r, p, h => by
   unfold splitB at h
   split at h
   ·rcases List.mem_cons.1 h with rfl | h
    ·simp
    ·have := splitB_mem_len c r p h; simp; omega
   ·cases hs : splitB c r with
    | nil => exact absurd hs (splitB_ne c r)
    | cons a b =>
      rw [hs] at h
      rcases List.mem_cons.1 h with rfl | h
      ·have := splitB_mem_len c r a (by rw [hs]; simp); simp; omega
      ·have := splitB_mem_len c r p (by rw [hs]; simp [h]); simp; omega
/-- what decides on a number of an address -/
theorem octet_eq (t : ByteArray) : octet (bl t) = (decide (0 < t.size) && ((bl t).all isDigit && (decide (numL (bl t) ≤ 255) && (decide (t.size ≤ 1) || !((bl t).head?.any fun c => decide (c.toNat = 48)))))) := by
 unfold octet; rw [bl_length]; simp [Nat.succ_le_iff, Bool.and_assoc]
theorem four_any (s : ByteArray) (w : World) (hs : s.size ≤ 1073741824) :
 Calls Tryz.prog 177 #[.string s] w fun e w' => e = .returned (.bool (four (bl s))) ∧ Below w.heap.size w w' := by
 obtain ⟨L, hL⟩ : ∃ L, L = splitB 46 (bl s) := ⟨_, rfl⟩
 have hsp := fun (W : World) => Split_any s 46 W hs
 have hne : L ≠ [] := by rw [hL]; exact splitB_ne _ _
 have hmem : Hid (∀ p ∈ L, p.length ≤ 1073741824) := fun p hp => by
  have := splitB_mem_len 46 (bl s) p (by rw [← hL]; exact hp); rw [bl_length] at this; omega
 have hfour : Hid (four (bl s) = (decide (L.length = 4) && L.all octet)) := by unfold Hid four; rw [hL]
 rw [← hL] at hsp
 have hlen : L.length ≤ 1073741825 := by rw [hL]; exact split_len 46 s hs
 have HS := Lib.hid hsp
 clear hsp hL
 by_cases h4 : L.length = 4
 ·have e4 : ((L.length : Int) != 4) = false := by rw [bne_eq_false_iff_eq]; omega
  have H4 := Lib.hid h4
  have hlt4 : L.length ≤ 4 := by omega
  clear h4
  go_enter Tryz.func177, Tryz.ntmps177
  go_wp2_with (go_at_call 175; refine (HS.out _).mono ?_; rintro e w1 ⟨v, rfl, hown, hbel⟩; obtain ⟨g, cap, rfl, hcells⟩ := strs_open hown hne; have HC := Lib.hid hcells; clear hcells hown)
  go_loop [5, 6, 7, 15, 19] (fun _ _ _ i _ => ∃ k : Nat, k ≤ L.length ∧ i = .int .i64 k ∧ four (bl s) = (L.drop k).all octet) (fun _ _ _ i _ => L.length - (intOf i).toNat)
  case atStart => exact ⟨0, Nat.zero_le _, rfl, by rw [hfour.out, H4.out]; simp⟩
  case round =>
   obtain ⟨k, hk, rfl, hpre⟩ := hrel
   have HP := Lib.hid hpre
   clear hpre
   by_cases hlt : k < L.length
   ·have hcell := HC.out k hlt
    have hD : L.drop k = L[k] :: L.drop (k + 1) := List.drop_eq_getElem_cons hlt
    have hml := hmem.out L[k] (List.getElem_mem hlt)
    have hO := octet_eq (mkS L[k])
    rw [bl_mkS] at hO
    have hT : Hid (four (bl s) = (octet L[k] && (L.drop (k + 1)).all octet)) := by rw [Hid, HP.out, hD, List.all_cons]
    rw [hO] at hT
    obtain ⟨t, ht⟩ : ∃ t, t = mkS L[k] := ⟨_, rfl⟩
    rw [← ht] at hcell hT
    have hbt : L[k] = bl t := by rw [ht, bl_mkS]
    rw [hbt] at hT
    have hts : t.size ≤ 1073741824 := by rw [ht, mkS_size]; exact hml
    clear HP hO ht hbt hml hD
    have hnum0 := fun (W : World) => Number_any t W hts
    have hdig0 := fun (W : World) => Digits_any t W (by unfold maxLen; omega)
    have hdl := digits_le (bl t)
    rw [bl_length] at hdl
    by_cases h0 : 0 < t.size
    ·have hse := str_ne h0
     have hse' := str_ne' h0
     have hhd := head_bl t h0
     by_cases hall : (bl t).all isDigit = true
     ·have hnl : ¬ digits (bl t) < t.size := fun h => (digits_lt_iff (bl t)).1 (by rw [bl_length]; exact h) hall
      have hne45 : ¬ (0 < t.size ∧ ∀ h : 0 < t.size, t[0].toNat = 45) := fun ⟨_, h⟩ => by
            have h9 := isDigit_at hall h0
            have := h h0
            simp [isDigit, this] at h9
      have hnv := number_pos t hne45
      rw [if_pos ⟨h0, hall⟩] at hnv
      rw [hnv] at hnum0
      simp only at hnum0
      have hnb := numL_bd (bl t) hall
      by_cases h255 : numL (bl t) ≤ 255
      ·by_cases h1 : t.size ≤ 1
       ·have HE : Hid (four (bl s) = (L.drop (k + 1)).all octet) := by rw [Hid, hT]; simp [h0, hall, h255, h1]
        generalize number (bl t) = nv at hnum0
        have hnum := Lib.hid hnum0
        have hdig := Lib.hid hdig0
        clear hnum0 hdig0 hT
        go_wp2_with (first | (go_at_call 199; refine (hnum.out _).mono ?_; rintro e w2 ⟨rfl, rfl⟩) | (go_at_call 200; refine (hdig.out _).mono ?_; rintro e w2 ⟨rfl, rfl⟩))
        go_round
        case rel => exact ⟨k + 1, by omega, by go_num, HE.out⟩
        case measure => simp [intOf] <;> omega
       ·by_cases h48 : t[0].toNat = 48
        ·have HE : Hid (four (bl s) = false) := by rw [Hid, hT, hhd]; simp [h1, h48]
         have e48 : ((t[0].toNat : Int) == 48) = true := beq_iff_eq.2 (by omega)
         generalize number (bl t) = nv at hnum0
         have hnum := Lib.hid hnum0
         have hdig := Lib.hid hdig0
         clear hnum0 hdig0 hT
         go_wp2_with (first | (go_at_call 199; refine (hnum.out _).mono ?_; rintro e w2 ⟨rfl, rfl⟩) | (go_at_call 200; refine (hdig.out _).mono ?_; rintro e w2 ⟨rfl, rfl⟩))
         go_ret
         exact ⟨ret_bool HE.out.symm, hbel⟩
        ·have HE : Hid (four (bl s) = (L.drop (k + 1)).all octet) := by rw [Hid, hT, hhd]; simp [h0, hall, h255, h48]
         have e48 : ((t[0].toNat : Int) == 48) = false := beq_eq_false_iff_ne.2 (by omega)
         generalize number (bl t) = nv at hnum0
         have hnum := Lib.hid hnum0
         have hdig := Lib.hid hdig0
         clear hnum0 hdig0 hT
         go_wp2_with (first | (go_at_call 199; refine (hnum.out _).mono ?_; rintro e w2 ⟨rfl, rfl⟩) | (go_at_call 200; refine (hdig.out _).mono ?_; rintro e w2 ⟨rfl, rfl⟩))
         go_round
         case rel => exact ⟨k + 1, by omega, by go_num, HE.out⟩
         case measure => simp [intOf] <;> omega
      ·have HE : Hid (four (bl s) = false) := by rw [Hid, hT]; simp [h255]
       generalize number (bl t) = nv at hnum0
       have hnum := Lib.hid hnum0
       have hdig := Lib.hid hdig0
       clear hnum0 hdig0 hT
       go_wp2_with (first | (go_at_call 199; refine (hnum.out _).mono ?_; rintro e w2 ⟨rfl, rfl⟩) | (go_at_call 200; refine (hdig.out _).mono ?_; rintro e w2 ⟨rfl, rfl⟩))
       go_ret
       exact ⟨ret_bool HE.out.symm, hbel⟩
     ·have hnl : digits (bl t) < t.size := by have := (digits_lt_iff (bl t)).2 hall; rwa [bl_length] at this
      have HE : Hid (four (bl s) = false) := by rw [Hid, hT]; simp [hall]
      generalize number (bl t) = nv at hnum0
      have hnum := Lib.hid hnum0
      have hdig := Lib.hid hdig0
      clear hnum0 hdig0 hT
      go_wp2_with (first | (go_at_call 199; refine (hnum.out _).mono ?_; rintro e w2 ⟨rfl, rfl⟩) | (go_at_call 200; refine (hdig.out _).mono ?_; rintro e w2 ⟨rfl, rfl⟩))
      go_ret
      exact ⟨ret_bool HE.out.symm, hbel⟩
    ·have hse := str_nil h0
     have hse' := str_nil' h0
     have HE : Hid (four (bl s) = false) := by rw [Hid, hT]; simp [h0]
     generalize number (bl t) = nv at hnum0
     have hnum := Lib.hid hnum0
     have hdig := Lib.hid hdig0
     clear hnum0 hdig0 hT
     go_wp2_with (first | (go_at_call 199; refine (hnum.out _).mono ?_; rintro e w2 ⟨rfl, rfl⟩) | (go_at_call 200; refine (hdig.out _).mono ?_; rintro e w2 ⟨rfl, rfl⟩))
     go_ret
     exact ⟨ret_bool HE.out.symm, hbel⟩
   ·have HE : Hid (four (bl s) = true) := by rw [Hid, HP.out, List.drop_eq_nil_of_le (by omega)]; rfl
    go_wp2
    go_ret
    exact ⟨ret_bool HE.out.symm, hbel⟩
 ·have e4 : ((L.length : Int) != 4) = true := by rw [bne_iff_ne]; omega
  have HE : Hid (four (bl s) = false) := by rw [Hid, hfour.out]; simp [h4]
  clear h4
  go_enter Tryz.func177, Tryz.ntmps177
  go_wp2_with (go_at_call 175; refine (HS.out _).mono ?_; rintro e w1 ⟨v, rfl, hown, hbel⟩; obtain ⟨g, cap, rfl, hcells⟩ := strs_open hown hne; have HC := Lib.hid hcells; clear hcells hown)
  go_ret
  exact ⟨ret_bool HE.out.symm, hbel⟩
theorem dig_bd {c : UInt8} (h : isDigit c = true) : 48 ≤ c.toNat ∧ c.toNat ≤ 57 := by simpa [isDigit] using h
theorem Address_any (s : ByteArray) (w : World) (hs : s.size ≤ 1073741824) :
 Calls Tryz.prog 146 #[.string s] w fun e w' => e = .returned (.bool (address (bl s))) ∧ Below w.heap.size w w' := by
 have HD : Hid (address (bl s) = (four (bl s) || bracket (bl s))) := rfl
 cases h4 : four (bl s) with
 | true =>
   have HE : Hid (address (bl s) = true) := by rw [Hid, HD.out, h4]; rfl
   go_enter Tryz.func146, Tryz.ntmps146
   go_wp2_with (go_at_call 177; refine (four_any s _ hs).mono ?_; rintro e w1 ⟨rfl, hb⟩)
   go_ret
   exact ⟨ret_bool HE.out.symm, hb⟩
 | false =>
   have HE : Hid (address (bl s) = bracket (bl s)) := by rw [Hid, HD.out, h4]; rfl
   go_enter Tryz.func146, Tryz.ntmps146
   go_wp2_with (first | (go_at_call 177; refine (four_any s _ hs).mono ?_; rintro e w1 ⟨rfl, hb⟩) | (go_at_call 178; refine (bracket_any s _ hs).mono ?_; rintro e w2 ⟨rfl, hb2⟩))
   go_ret
   exact ⟨ret_bool HE.out.symm, below2 hb hb2⟩
theorem name_any (s : ByteArray) (w : World) (hs : s.size ≤ 1073741824) :
 Calls Tryz.prog 145 #[.string s] w fun e w' => e = .returned (.bool (hname (bl s))) ∧ Below w.heap.size w w' := by
 have hdef : hname (bl s) = (decide (s.size ≤ 256) && !address (bl s) && labels (bl s)) := by unfold hname; rw [bl_length]
 by_cases h256 : s.size ≤ 256
 ·cases ha : address (bl s) with
  | true =>
    have HE : Hid (hname (bl s) = false) := by rw [Hid, hdef, ha]; simp
    clear hdef
    go_enter Tryz.func145, Tryz.ntmps145
    go_wp2_with (go_at_call 146; refine (Address_any s _ hs).mono ?_; rintro e w1 ⟨rfl, hb⟩)
    go_ret
    exact ⟨ret_bool HE.out.symm, hb⟩
  | false =>
    obtain ⟨L, hL⟩ : ∃ L, L = splitB 46 (bl s) := ⟨_, rfl⟩
    have hsp := fun (W : World) => Split_any s 46 W hs
    have hne : L ≠ [] := by rw [hL]; exact splitB_ne _ _
    have hmem : Hid (∀ p ∈ L, p.length ≤ 1073741824) := fun p hp => by
        have := splitB_mem_len 46 (bl s) p (by rw [← hL]; exact hp); rw [bl_length] at this; omega
    have HL : Hid (hname (bl s) = L.all label) := by rw [Hid, hdef, ha]; unfold labels; rw [← hL]; simp [h256]
    rw [← hL] at hsp
    have hlen : L.length ≤ 1073741825 := by rw [hL]; exact split_len 46 s hs
    have HS := Lib.hid hsp
    clear hsp hL hdef
    go_enter Tryz.func145, Tryz.ntmps145
    go_wp2_with (first
        | (go_at_call 146; refine (Address_any s _ hs).mono ?_; rintro e w0 ⟨rfl, hb0⟩)
        | (go_at_call 175; refine (HS.out _).mono ?_; rintro e w1 ⟨v, rfl, hown, hbel⟩; obtain ⟨g, cap, rfl, hcells⟩ := strs_open hown hne; have HC := Lib.hid hcells; clear hcells hown))
    go_loop [4, 15] (fun _ i => ∃ k : Nat, k ≤ L.length ∧ i = .int .i64 k ∧ hname (bl s) = (L.drop k).all label) (fun _ i => L.length - (intOf i).toNat)
    case atStart => exact ⟨0, Nat.zero_le _, rfl, HL.out⟩
    case round =>
        obtain ⟨k, hk, rfl, hpre⟩ := hrel
        have HP := Lib.hid hpre
        clear hpre
        by_cases hlt : k < L.length
        ·have hcell := HC.out k hlt
         have hD : L.drop k = L[k] :: L.drop (k + 1) := List.drop_eq_getElem_cons hlt
         have hml := hmem.out L[k] (List.getElem_mem hlt)
         have hT : Hid (hname (bl s) = (label L[k] && (L.drop (k + 1)).all label)) := by rw [Hid, HP.out, hD, List.all_cons]
         have hlab0 := fun (W : World) => label_any (mkS L[k]) W (by rw [mkS_size]; exact hml)
         rw [bl_mkS] at hlab0
         have HLA := Lib.hid hlab0
         clear hlab0 hD hml HP
         cases hq : label L[k] with
         | true =>
           rw [hq] at hT HLA
           go_wp2_with (go_at_call 176; refine (HLA.out _).mono ?_; rintro e w2 ⟨rfl, rfl⟩)
           go_round
           case rel => exact ⟨k + 1, by omega, by go_num, by rw [hT.out]; simp⟩
           case measure => simp [intOf] <;> omega
         | false =>
           rw [hq] at hT HLA
           go_wp2_with (go_at_call 176; refine (HLA.out _).mono ?_; rintro e w2 ⟨rfl, rfl⟩)
           go_ret
           exact ⟨ret_bool (by rw [hT.out]; rfl), below2 hb0 hbel⟩
        ·have HE : Hid (hname (bl s) = true) := by rw [Hid, HP.out, List.drop_eq_nil_of_le (by omega)]; rfl
         go_wp2
         go_ret
         exact ⟨ret_bool HE.out.symm, below2 hb0 hbel⟩
 ·have HE : Hid (hname (bl s) = false) := by rw [Hid, hdef]; simp [h256]
  clear hdef
  go_enter Tryz.func145, Tryz.ntmps145
  go_wp2
  go_ret
  exact ⟨ret_bool HE.out.symm, Below.refl _ _⟩
def canonical (l : Bytes) : Bool := decide (l.length ≤ 256) && (hname l || address l)
def canonE (l : Bytes) : Int := if 256 < l.length then 3 else if hname (lowerL l) = true ∨ address (lowerL l) = true then 0 else 1
def canonT (l : Bytes) : Bytes := if 256 < l.length then [] else if hname (lowerL l) = true ∨ address (lowerL l) = true then lowerL l else []
theorem Canon_any (s : ByteArray) (w : World) (hs : s.size ≤ 1073741824) :
 Calls Tryz.prog 111 #[.string s] w fun e w' => e = .returned (.tuple #[.string (mkS (canonT (bl s))), .int .i64 (canonE (bl s))]) ∧ Below w.heap.size w w' := by
 by_cases h256 : s.size ≤ 256
 ·have hlo := fun (W : World) => Lower_any s W hs
  obtain ⟨t, ht⟩ : ∃ t, t = mkS (lowerL (bl s)) := ⟨_, rfl⟩
  have hbt : lowerL (bl s) = bl t := by rw [ht, bl_mkS]
  have hts : t.size ≤ 1073741824 := by rw [ht, mkS_size]; unfold lowerL; simp [bl_length]; omega
  rw [← ht] at hlo
  have hE : canonE (bl s) = if hname (bl t) = true ∨ address (bl t) = true then 0 else 1 := by unfold canonE; rw [bl_length, if_neg (by omega), hbt]
  have hT : canonT (bl s) = if hname (bl t) = true ∨ address (bl t) = true then bl t else [] := by unfold canonT; rw [bl_length, if_neg (by omega), hbt]
  have HL := Lib.hid hlo
  clear hlo ht hbt
  cases hn : hname (bl t) with
  | true =>
    rw [hn, if_pos (Or.inl rfl)] at hE hT
    have HE := Lib.hid hE
    have HT := Lib.hid hT
    clear hE hT
    go_enter Tryz.func111, Tryz.ntmps111
    go_wp2_with (first
        | (go_at_call 144; refine (HL.out _).mono ?_; rintro e w1 ⟨rfl, hb1⟩)
        | (go_at_call 145; refine (name_any t _ hts).mono ?_; rintro e w2 ⟨rfl, hb2⟩))
    go_ret2
    exact ⟨by rw [HE.out, HT.out, mkS_bl]; rfl, below2 hb1 hb2⟩
  | false =>
    cases ha : address (bl t) with
    | true =>
      rw [hn, ha, if_pos (Or.inr rfl)] at hE hT
      have HE := Lib.hid hE
      have HT := Lib.hid hT
      clear hE hT
      go_enter Tryz.func111, Tryz.ntmps111
      go_wp2_with (first
       | (go_at_call 144; refine (HL.out _).mono ?_; rintro e w1 ⟨rfl, hb1⟩)
       | (go_at_call 145; refine (name_any t _ hts).mono ?_; rintro e w2 ⟨rfl, hb2⟩)
       | (go_at_call 146; refine (Address_any t _ hts).mono ?_; rintro e w3 ⟨rfl, hb3⟩))
      go_ret2
      exact ⟨by rw [HE.out, HT.out, mkS_bl]; rfl, below2 (below2 hb1 hb2) hb3⟩
    | false =>
      rw [hn, ha] at hE hT
      have HE := Lib.hid hE
      have HT := Lib.hid hT
      clear hE hT
      go_enter Tryz.func111, Tryz.ntmps111
      go_wp2_with (first
       | (go_at_call 144; refine (HL.out _).mono ?_; rintro e w1 ⟨rfl, hb1⟩)
       | (go_at_call 145; refine (name_any t _ hts).mono ?_; rintro e w2 ⟨rfl, hb2⟩)
       | (go_at_call 146; refine (Address_any t _ hts).mono ?_; rintro e w3 ⟨rfl, hb3⟩))
      go_ret2
      exact ⟨by rw [HE.out, HT.out, if_neg (by simp), if_neg (by simp)]; rfl, below2 (below2 hb1 hb2) hb3⟩
 ·have HE : Hid (canonE (bl s) = 3) := by unfold Hid canonE; rw [bl_length, if_pos (by omega)]
  have HT : Hid (canonT (bl s) = []) := by unfold Hid canonT; rw [bl_length, if_pos (by omega)]
  go_enter Tryz.func111, Tryz.ntmps111
  go_wp2
  go_ret2
  exact ⟨by rw [HE.out, HT.out]; rfl, Below.refl _ _⟩
/-! ### what is canonical has no capitals -/
theorem lowerB_same {c : UInt8} (h : ¬ (65 ≤ c.toNat ∧ c.toNat ≤ 90)) : lowerB c = c := by unfold lowerB; rw [if_neg h]
theorem splitB_mem (c : UInt8) : ∀ (l : Bytes) (x : UInt8), x ∈ l → x.toNat = c.toNat ∨ ∃ p ∈ splitB c l, x ∈ p
 | [], x, h => by simp at h
 | y :: r, x, h => by
   by_cases hy : y.toNat = c.toNat
   ·rcases List.mem_cons.1 h with rfl | h
    ·exact Or.inl hy
    ·rcases splitB_mem c r x h with h1 | ⟨p, hp, hx⟩
     ·exact Or.inl h1
     ·exact Or.inr ⟨p, by rw [splitB, if_pos hy]; exact List.mem_cons_of_mem _ hp, hx⟩
   ·cases hs : splitB c r with
    | nil => exact absurd hs (splitB_ne c r)
    | cons a b =>
      have e : splitB c (y :: r) = (y :: a) :: b := by rw [splitB, if_neg hy, hs]
      rw [e]
      rcases List.mem_cons.1 h with rfl | h
      ·exact Or.inr ⟨x :: a, by simp, by simp⟩
      ·rcases splitB_mem c r x h with h1 | ⟨p, hp, hx⟩
       ·exact Or.inl h1
       ·rw [hs] at hp
        rcases List.mem_cons.1 hp with rfl | hp
        ·exact Or.inr ⟨y :: p, by simp, by simp [hx]⟩
        ·exact Or.inr ⟨p, by simp [hp], hx⟩
theorem lowerL_same {l : Bytes} (h : ∀ x ∈ l, ¬ (65 ≤ x.toNat ∧ x.toNat ≤ 90)) : lowerL l = l := by
 unfold lowerL
 have : ∀ x ∈ l, lowerB x = id x := fun x hx => lowerB_same (h x hx)
 rw [List.map_congr_left this]; simp
theorem lower_hname {l : Bytes} (h : hname l = true) : lowerL l = l := by
 unfold hname labels at h
 simp only [Bool.and_eq_true] at h
 refine lowerL_same fun x hx => ?_
 rcases splitB_mem 46 l x hx with h1 | ⟨p, hp, hxp⟩
 ·rw [h1]; decide
 ·have hl := List.all_eq_true.1 h.2 p hp
  unfold label at hl
  simp only [Bool.and_eq_true] at hl
  have := List.all_eq_true.1 hl.1.1.2 x hxp
  unfold isSign at this
  simp at this
  omega
theorem lower_address {l : Bytes} (h : address l = true) : lowerL l = l := by
 unfold address at h
 simp only [Bool.or_eq_true] at h
 rcases h with h | h
 ·unfold four at h
  simp only [Bool.and_eq_true] at h
  refine lowerL_same fun x hx => ?_
  rcases splitB_mem 46 l x hx with h1 | ⟨p, hp, hxp⟩
  ·rw [h1]; decide
  ·have hl := List.all_eq_true.1 h.2 p hp
   unfold octet at hl
   simp only [Bool.and_eq_true] at hl
   have := dig_bd (List.all_eq_true.1 hl.1.1.2 x hxp)
   omega
 ·unfold bracket at h
  simp only [Bool.and_eq_true, decide_eq_true_eq] at h
  obtain ⟨⟨⟨⟨h4, _⟩, h91⟩, h93⟩, hm⟩ := h
  refine lowerL_same fun x hx => ?_
  obtain ⟨i, hi, rfl⟩ := List.mem_iff_getElem.1 hx
  by_cases h0 : i = 0
  ·subst h0
   have hh : l.head? = some l[0] := by rw [List.head?_eq_getElem?]; simp
   rw [hh] at h91
   have : l[0].toNat = 91 := by simpa using h91
   omega
  ·by_cases h1 : i = l.length - 1
   ·subst h1
    have hh : l.getLast? = some l[l.length - 1] := by rw [List.getLast?_eq_getElem?]; simp
    rw [hh] at h93
    have : l[l.length - 1].toNat = 93 := by simpa using h93
    omega
   ·have hb : isHexB l[i] = true := by
     refine List.all_eq_true.1 hm _ (List.mem_iff_getElem.2 ⟨i - 1, by simp; omega, ?_⟩)
     rw [List.getElem_take, List.getElem_drop]
     simp only [show 1 + (i - 1) = i by omega]
    unfold isHexB at hb
    simp at hb
    omega
theorem canon_ref (l : Bytes) : (decide (canonE l = 0) && decide (canonT l = l)) = canonical l := by
 unfold canonE canonT canonical
 by_cases h : 256 < l.length
 ·simp [h, show ¬ l.length ≤ 256 by omega]
 ·by_cases hc : hname (lowerL l) = true ∨ address (lowerL l) = true
  ·have e : lowerL (lowerL l) = lowerL l := by rcases hc with h1 | h1; exact lower_hname h1; exact lower_address h1
   simp only [if_neg h, if_pos hc, show l.length ≤ 256 by omega, decide_true, Bool.true_and]
   rw [Bool.eq_iff_iff, decide_eq_true_eq, Bool.or_eq_true]
   constructor
   ·intro e2; rw [e2] at hc; exact hc
   ·rintro (h1 | h1)
    ·exact lower_hname h1
    ·exact lower_address h1
  ·have hc2 : ¬ (hname l = true ∨ address l = true) := by
        rintro (h1 | h1)
        ·exact hc (Or.inl (by rw [lower_hname h1]; exact h1))
        ·exact hc (Or.inr (by rw [lower_address h1]; exact h1))
   simp only [if_neg h, if_neg hc]
   have h3 : hname l = false := by simpa using fun x => hc2 (Or.inl x)
   have h4 : address l = false := by simpa using fun x => hc2 (Or.inr x)
   simp [h3, h4]
end Go.Proofs.YtohcmljigcdmbaaGreat
