/- The functions of package ascii and of its reference compute the plain functions of Defs. Conditions: texts shorter than the greatest length. -/
import Derived.Test.YtdlhbmhdcdfocaaChecked
import Derived.Test.YtdlhbmhdcdfocaaKit
set_option linter.unusedSimpArgs false
set_option linter.unusedVariables false
set_option linter.unnecessarySimpa false
namespace Go.Proofs.Ytdlhbmhdcdfocaa
open Go.RowKit

set_option maxHeartbeats 400000 in
theorem digit_any (c : UInt8) (w : World) : Calls Try.prog 82 #[.int .u8 c.toNat] w fun e w' => e = .returned (.bool (isDigit c)) ∧ w = w' := by
  go_enter Try.func82, Try.ntmps82
  go_wp2
  all_goals
    go_ret
    exact ⟨ret_bool (by unfold isDigit; rw [Bool.eq_iff_iff]; simp <;> omega), rfl⟩

set_option maxHeartbeats 400000 in
theorem blank_any (c : UInt8) (w : World) : Calls Try.prog 67 #[.int .u8 c.toNat] w fun e w' => e = .returned (.bool (isBlank c)) ∧ w = w' := by
  go_enter Try.func67, Try.ntmps67
  go_wp2
  all_goals
    go_ret
    exact ⟨ret_bool (by unfold isBlank; rw [Bool.eq_iff_iff]; simp <;> omega), rfl⟩

theorem lowerB_le (c : UInt8) : ((lowerB c).toNat : Int) = if 65 ≤ (c.toNat : Int) ∧ (c.toNat : Int) ≤ 90 then c.toNat + 32 else c.toNat := by
  unfold lowerB
  have := c.toNat_lt
  split
  · rw [if_pos (by omega), UInt8.toNat_add]; simp; omega
  · rw [if_neg (by omega)]

set_option maxHeartbeats 400000 in
theorem lower_any (c : UInt8) (w : World) : Calls Try.prog 62 #[.int .u8 c.toNat] w fun e w' => e = .returned (.int .u8 (lowerB c).toNat) ∧ w = w' := by
  have hc := c.toNat_lt
  go_enter Try.func62, Try.ntmps62
  go_wp2
  all_goals
    go_ret
    exact ⟨ret_int (by rw [lowerB_le]; split <;> omega), rfl⟩

set_option maxHeartbeats 400000 in
theorem Digits_any (s : ByteArray) (w : World) (hs : s.size ≤ maxLen) :
    Calls Try.prog 77 #[.string s] w fun e w' => e = .returned (.int .i64 (digits (bl s))) ∧ w = w' := by
  unfold maxLen at hs
  go_enter Try.func77, Try.ntmps77
  go_wp2
  go_loop [3] (fun n => ∃ k : Nat, k ≤ s.size ∧ n = .int .i64 k ∧ digits (bl s) = k + digits ((bl s).drop k)) (fun n => s.size - (intOf n).toNat)
  case atStart => exact ⟨0, Nat.zero_le _, rfl, by simp⟩
  case round =>
    obtain ⟨k, hk, rfl, hpre⟩ := hrel
    have HP := Lib.hid hpre
    clear hpre
    by_cases hlt : k < s.size
    · have HD := Lib.hid (drop_cons s k hlt)
      by_cases h1 : isDigit s[k] = true
      · go_wp2_with (go_at_call 82; refine (digit_any _ _).mono ?_; rintro e w1 ⟨rfl, rfl⟩)
        go_round
        case rel => exact ⟨k + 1, by omega, by go_num, by rw [HP.out, HD.out]; simp [digits, h1]; omega⟩
        case measure => simp [intOf]; omega
      · go_wp2_with (go_at_call 82; refine (digit_any _ _).mono ?_; rintro e w1 ⟨rfl, rfl⟩)
        go_ret
        exact ⟨ret_int (by rw [HP.out, HD.out]; simp [digits, h1]), rfl⟩
    · have HD := Lib.hid (drop_all s k hlt)
      go_wp2
      go_ret
      exact ⟨ret_int (by rw [HP.out, HD.out]; simp [digits]), rfl⟩

set_option maxHeartbeats 400000 in
theorem find_any (s : ByteArray) (c : UInt8) (w : World) (hs : s.size ≤ maxLen) :
    Calls Try.prog 68 #[.string s, .int .u8 c.toNat] w fun e w' => e = .returned (.int .i64 (findI (bl s) c)) ∧ w = w' := by
  unfold maxLen at hs
  go_enter Try.func68, Try.ntmps68
  go_wp2
  go_step3
  go_wp2
  go_step3
  go_wp2
  go_loop [5, 6, 9] (fun t _ i => ∃ k : Nat, k ≤ s.size ∧ t = .int .i64 (-1) ∧ i = .int .i64 k ∧ findI (bl s) c = findFrom k ((bl s).drop k) c) (fun _ _ i => s.size - (intOf i).toNat)
  case atStart => exact ⟨0, Nat.zero_le _, rfl, rfl, by simp [findFrom_zero]⟩
  case round =>
    obtain ⟨k, hk, rfl, rfl, hpre⟩ := hrel
    have HP := Lib.hid hpre
    clear hpre
    by_cases hlt : k < s.size
    · have HD := Lib.hid (drop_cons s k hlt)
      by_cases h1 : (s[k].toNat : Int) = c.toNat
      · have h2 : ((s[k].toNat : Int) == (c.toNat : Int)) = true := by simp [h1]
        have H1 := Lib.hid h1
        clear h1
        go_wp2
        try rw [Exit.noGoto_ret]
        go_ret
        exact ⟨ret_int (by rw [HP.out, HD.out, findFrom_cons_eq H1.out]), rfl⟩
      · have h2 : ((s[k].toNat : Int) == (c.toNat : Int)) = false := by simp; omega
        have H1 := Lib.hid h1
        clear h1
        go_wp2
        go_round
        case rel => exact ⟨k + 1, by omega, rfl, by go_num, by rw [HP.out, HD.out, findFrom_cons_ne H1.out]⟩
        case measure => simp [intOf]; omega
    · have HD := Lib.hid (drop_all s k hlt)
      go_wp2
      try rw [Exit.noGoto_ret]
      go_ret
      exact ⟨ret_int (by rw [HP.out, HD.out, findFrom_nil]), rfl⟩

set_option maxHeartbeats 400000 in
theorem Control_any (s : ByteArray) (w : World) (hs : s.size ≤ maxLen) :
    Calls Try.prog 50 #[.string s] w fun e w' => e = .returned (.bool (control (bl s))) ∧ w = w' := by
  unfold maxLen at hs
  go_enter Try.func50, Try.ntmps50
  go_wp2
  go_loop [3, 6] (fun _ i => ∃ k : Nat, k ≤ s.size ∧ i = .int .i64 k ∧ control (bl s) = control ((bl s).drop k)) (fun _ i => s.size - (intOf i).toNat)
  case atStart => exact ⟨0, Nat.zero_le _, rfl, by simp⟩
  case round =>
    obtain ⟨k, hk, rfl, hpre⟩ := hrel
    have HP := Lib.hid hpre
    clear hpre
    by_cases hlt : k < s.size
    · have HD := Lib.hid (drop_cons s k hlt)
      have HY : Hid (isCtl s[k] = true → control (bl s) = true) := fun h => by rw [HP.out, HD.out]; simp [control, h]
      have HN : Hid (isCtl s[k] = false → control (bl s) = control ((bl s).drop (k + 1))) := fun h => by rw [HP.out, HD.out]; simp [control, h]
      go_wp2
      all_goals first
        | (go_ret; exact ⟨ret_bool (HY.out (by unfold isCtl; simp; (first | omega | (simp only [beq_iff_eq, beq_eq_false_iff_ne, ne_eq, bne_iff_ne, bne_eq_false_iff_eq, decide_eq_true_eq, decide_eq_false_iff_not, Bool.not_eq_eq_eq_not, Bool.not_true, Bool.not_false] at *; omega)))).symm, rfl⟩)
        | (go_round
           case rel => exact ⟨k + 1, by omega, by go_num, HN.out (by unfold isCtl; rw [Bool.eq_iff_iff]; simp; (first | omega | (simp only [beq_iff_eq, beq_eq_false_iff_ne, ne_eq, bne_iff_ne, bne_eq_false_iff_eq, decide_eq_true_eq, decide_eq_false_iff_not, Bool.not_eq_eq_eq_not, Bool.not_true, Bool.not_false] at *; omega)))⟩
           case measure => simp [intOf]; omega)
    · have HD := Lib.hid (drop_all s k hlt)
      go_wp2
      go_ret
      exact ⟨ret_bool (by rw [HP.out, HD.out]; simp [control]), rfl⟩

theorem trimL_step (s : ByteArray) (h : 0 < s.size) (hb : isBlank s[0] = true) : trimL (bl (s.extract 1 s.size)) = trimL (bl s) := by
  have e : bl s = s[0] :: (bl s).drop 1 := by have := drop_cons s 0 h; simpa using this
  rw [bl_extract]
  unfold trimL
  rw [e, List.dropWhile_cons, if_pos hb, ← e]
  simp [bl_length, List.take_of_length_le]
theorem trimL_stop (s : ByteArray) (h : 0 < s.size) (hb : isBlank s[0] = false) : trimL (bl s) = bl s := by
  have e : bl s = s[0] :: (bl s).drop 1 := by have := drop_cons s 0 h; simpa using this
  unfold trimL
  rw [e, List.dropWhile_cons, hb]
  simp
theorem trimR_snoc (l : Bytes) (c : UInt8) : trimR (l ++ [c]) = if isBlank c then trimR l else l ++ [c] := by
  unfold trimR
  simp only [List.reverse_append, List.reverse_cons, List.reverse_nil, List.nil_append, List.singleton_append, List.dropWhile_cons]
  split <;> simp
theorem bl_snoc (s : ByteArray) (h : 0 < s.size) : bl s = (bl s).take (s.size - 1) ++ [s[s.size - 1]] := by
  have := List.take_succ_eq_append_getElem (l := bl s) (i := s.size - 1) (by simp [bl_length]; omega)
  rw [show s.size - 1 + 1 = s.size by omega, List.take_of_length_le (by simp [bl_length])] at this
  exact this
theorem trimR_step (s : ByteArray) (h : 0 < s.size) (hb : isBlank s[s.size - 1] = true) : trimR (bl (s.extract 0 (s.size - 1))) = trimR (bl s) := by
  have e := bl_snoc s h
  rw [bl_extract, e, trimR_snoc, if_pos hb, ← e]
  simp
theorem trimR_stop (s : ByteArray) (h : 0 < s.size) (hb : isBlank s[s.size - 1] = false) : trimR (bl s) = bl s := by
  have e := bl_snoc s h
  rw [e, trimR_snoc, hb, ← e]; simp

set_option maxHeartbeats 400000 in
theorem Trim_any (s : ByteArray) (w : World) (hs : s.size ≤ maxLen) :
    Calls Try.prog 51 #[.string s] w fun e w' => e = .returned (.string (mkS (trim (bl s)))) ∧ w = w' := by
  unfold maxLen at hs
  go_enter Try.func51, Try.ntmps51
  go_upto_block 0 with fail
  go_cut [0] (fun v wx => ∃ t : ByteArray, t.size ≤ s.size ∧ v = .string t ∧ bl t = trimL (bl s) ∧ wx = w)
  case first =>
    go_wp2
    go_loop [0] (fun v => ∃ t : ByteArray, t.size ≤ s.size ∧ v = .string t ∧ trimL (bl t) = trimL (bl s)) (fun v => strLen v)
    case atStart => exact ⟨s, Nat.le_refl _, rfl, rfl⟩
    case round =>
      obtain ⟨t, ht, rfl, hpre⟩ := hrel
      have HP := Lib.hid hpre
      clear hpre
      by_cases h0 : 0 < t.size
      · have he := str_ne h0
        have he' := str_ne' h0
        by_cases h1 : isBlank t[0] = true
        · have HS := Lib.hid (trimL_step t h0 h1)
          go_wp2_with (go_at_call 67; refine (blank_any _ _).mono ?_; rintro e w1 ⟨rfl, rfl⟩)
          go_round
          case rel => exact ⟨_, by simp; omega, rfl, by rw [HS.out, HP.out]⟩
          case measure => simp [strLen]; omega
        · have HS := Lib.hid (trimL_stop t h0 (by simpa using h1))
          go_wp2_with (go_at_call 67; refine (blank_any _ _).mono ?_; rintro e w1 ⟨rfl, rfl⟩)
          go_meet
          exact ⟨t, ht, rfl, by rw [← HP.out, HS.out], rfl⟩
      · have he := str_nil h0
        have he' := str_nil' h0
        have HN := Lib.hid (bl_nil h0)
        go_wp2
        go_meet
        exact ⟨t, ht, rfl, by rw [← HP.out, HN.out]; rfl, rfl⟩
  case rest =>
    obtain ⟨t0, ht0, rfl, h0, rfl⟩ := hcut
    have H0 := Lib.hid h0
    clear h0
    go_wp2
    go_loop [0] (fun v => ∃ t : ByteArray, t.size ≤ s.size ∧ v = .string t ∧ trimR (bl t) = trimR (bl t0)) (fun v => strLen v)
    case atStart => exact ⟨t0, ht0, rfl, rfl⟩
    case round =>
      obtain ⟨t, ht, rfl, hpre⟩ := hrel
      have HP := Lib.hid hpre
      clear hpre
      by_cases h0 : 0 < t.size
      · have he := str_ne h0
        have he' := str_ne' h0
        by_cases h1 : isBlank t[t.size - 1] = true
        · have HS := Lib.hid (trimR_step t h0 h1)
          go_wp2_with (go_at_call 67; refine (blank_any _ _).mono ?_; rintro e w1 ⟨rfl, rfl⟩)
          go_round
          case rel => exact ⟨_, by simp; omega, rfl, by rw [HS.out, HP.out]⟩
          case measure => simp [strLen]; omega
        · have HS := Lib.hid (trimR_stop t h0 (by simpa using h1))
          go_wp2_with (go_at_call 67; refine (blank_any _ _).mono ?_; rintro e w1 ⟨rfl, rfl⟩)
          go_ret
          exact ⟨ret_val (congrArg Value.string (mkS_of (by rw [trim, ← H0.out, ← HP.out, HS.out]))), rfl⟩
      · have he := str_nil h0
        have he' := str_nil' h0
        have HN := Lib.hid (bl_nil h0)
        go_wp2
        go_ret
        exact ⟨ret_val (congrArg Value.string (mkS_of (by rw [trim, ← H0.out, ← HP.out, HN.out]; rfl))), rfl⟩
end Go.Proofs.Ytdlhbmhdcdfocaa
