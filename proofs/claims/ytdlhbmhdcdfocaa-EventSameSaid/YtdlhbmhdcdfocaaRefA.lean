/- The reference of package ascii (biscottiref06) computes the plain functions of Defs. Conditions: texts of at most 2^30 bytes. -/
import Derived.Test.YtdlhbmhdcdfocaaAsciiD
set_option linter.unusedSimpArgs false
set_option linter.unusedVariables false
set_option linter.unnecessarySimpa false
namespace Go.Proofs.Ytdlhbmhdcdfocaa
open Go.RowKit

set_option maxHeartbeats 400000 in
theorem rControl_any (s : ByteArray) (w : World) (hs : s.size ≤ maxLen) :
    Calls Try.prog 53 #[.string s] w fun e w' => e = .returned (.bool (control (bl s))) ∧ w = w' := by
  unfold maxLen at hs
  go_enter Try.func53, Try.ntmps53
  go_wp2
  go_loop [3, 4] (fun v i => ∃ (k : Nat) (b : Bool), k ≤ s.size ∧ i = .int .i64 k ∧ v = .bool b ∧ control (bl s) = (b || control ((bl s).drop k))) (fun _ i => s.size - (intOf i).toNat)
  case atStart => exact ⟨0, false, Nat.zero_le _, rfl, rfl, by simp⟩
  case round =>
    obtain ⟨k, b, hk, rfl, rfl, hpre⟩ := hrel
    have HP := Lib.hid hpre
    clear hpre
    by_cases hlt : k < s.size
    · have HD := Lib.hid (drop_cons s k hlt)
      cases b with
      | true =>
        have HY : Hid (control (bl s) = (true || control ((bl s).drop (k + 1)))) := by rw [Hid, HP.out]; simp
        go_wp2
        go_round
        case rel => exact ⟨k + 1, true, by omega, by go_num, rfl, HY.out⟩
        case measure => simp [intOf]; omega
      | false =>
        have HY : Hid (∀ b, isCtl s[k] = b → control (bl s) = (b || control ((bl s).drop (k + 1)))) := fun b h => by rw [HP.out, HD.out, ← h]; simp [control]
        go_wp2
        all_goals
          go_round
          case rel => exact ⟨k + 1, _, by omega, by go_num, rfl, HY.out _ (by unfold isCtl; rw [Bool.eq_iff_iff]; simp; (first | omega | (simp only [beq_iff_eq, beq_eq_false_iff_ne, ne_eq, bne_iff_ne, bne_eq_false_iff_eq, decide_eq_true_eq, decide_eq_false_iff_not, Bool.not_eq_eq_eq_not, Bool.not_true, Bool.not_false] at *; omega)))⟩
          case measure => simp [intOf]; omega
    · have HD := Lib.hid (drop_all s k hlt)
      go_wp2
      go_ret
      exact ⟨ret_bool (by rw [HP.out, HD.out]; simp [control]), rfl⟩

set_option maxHeartbeats 400000 in
theorem rFind_any (s : ByteArray) (c : UInt8) (w : World) (hs : s.size ≤ maxLen) :
    Calls Try.prog 37 #[.string s, .int .u8 c.toNat] w fun e w' => e = .returned (.int .i64 (findI (bl s) c)) ∧ w = w' := by
  unfold maxLen at hs
  go_enter Try.func37, Try.ntmps37
  go_wp2
  go_loop [5] (fun i => ∃ k : Nat, k ≤ s.size ∧ i = .int .i64 k ∧ findI (bl s) c = findFrom k ((bl s).drop k) c) (fun i => s.size - (intOf i).toNat)
  case atStart => exact ⟨0, Nat.zero_le _, rfl, by simp [findFrom_zero]⟩
  case round =>
    obtain ⟨k, hk, rfl, hpre⟩ := hrel
    have HP := Lib.hid hpre
    clear hpre
    by_cases hlt : k < s.size
    · have HD := Lib.hid (drop_cons s k hlt)
      by_cases h1 : (s[k].toNat : Int) = c.toNat
      · have h2 : ((s[k].toNat : Int) == (c.toNat : Int)) = true := by simp [h1]
        have H1 := Lib.hid h1
        clear h1
        go_wp2
        go_ret
        exact ⟨ret_int (by rw [HP.out, HD.out, findFrom_cons_eq H1.out]), rfl⟩
      · have h2 : ((s[k].toNat : Int) == (c.toNat : Int)) = false := by simp; omega
        have H1 := Lib.hid h1
        clear h1
        go_wp2
        go_round
        case rel => exact ⟨k + 1, by omega, by go_num, by rw [HP.out, HD.out, findFrom_cons_ne H1.out]⟩
        case measure => simp [intOf]; omega
    · have HD := Lib.hid (drop_all s k hlt)
      go_wp2
      go_ret
      exact ⟨ret_int (by rw [HP.out, HD.out, findFrom_nil]), rfl⟩

set_option maxHeartbeats 400000 in
theorem rDigits_any (s : ByteArray) (w : World) (hs : s.size ≤ maxLen) :
    Calls Try.prog 78 #[.string s] w fun e w' => e = .returned (.int .i64 (digits (bl s))) ∧ w = w' := by
  unfold maxLen at hs
  go_enter Try.func78, Try.ntmps78
  go_wp2
  go_loop [3, 4] (fun v i => ∃ k n : Nat, k ≤ s.size ∧ i = .int .i64 k ∧ v = .int .i64 n ∧ n ≤ k ∧ digits (bl s) = if n = k then n + digits ((bl s).drop k) else n) (fun _ i => s.size - (intOf i).toNat)
  case atStart => exact ⟨0, 0, Nat.zero_le _, rfl, rfl, Nat.le_refl _, by simp⟩
  case round =>
    obtain ⟨k, n, hk, rfl, rfl, hn, hpre⟩ := hrel
    have HP := Lib.hid hpre
    clear hpre
    by_cases hlt : k < s.size
    · have HD := Lib.hid (drop_cons s k hlt)
      by_cases hnk : n = k
      · subst hnk
        have HY : Hid (isDigit s[n] = true → digits (bl s) = if n + 1 = n + 1 then n + 1 + digits ((bl s).drop (n + 1)) else n + 1) := fun h => by rw [HP.out, HD.out]; simp [digits, h]; omega
        have HN : Hid (isDigit s[n] = false → digits (bl s) = if n = n + 1 then n + digits ((bl s).drop (n + 1)) else n) := fun h => by rw [HP.out, HD.out]; simp [digits, h]
        go_wp2
        all_goals
          go_round
          case rel =>
            first
              | exact ⟨n + 1, n + 1, by omega, by go_num, by go_num, by omega, HY.out (by unfold isDigit; simp; omega)⟩
              | exact ⟨n + 1, n, by omega, by go_num, rfl, by omega, HN.out (by unfold isDigit; rw [Bool.eq_iff_iff]; simp; omega)⟩
          case measure => simp [intOf]; omega
      · have h2 : ((n : Int) == (k : Int)) = false := by simp; omega
        have HY : Hid (digits (bl s) = if n = k + 1 then n + digits ((bl s).drop (k + 1)) else n) := by rw [Hid, HP.out, if_neg hnk, if_neg (by omega)]
        clear hnk
        go_wp2
        go_round
        case rel => exact ⟨k + 1, n, by omega, by go_num, rfl, by omega, HY.out⟩
        case measure => simp [intOf]; omega
    · have HD := Lib.hid (drop_all s k hlt)
      go_wp2
      go_ret
      exact ⟨ret_int (by rw [HP.out, HD.out]; simp [digits]), rfl⟩
end Go.Proofs.Ytdlhbmhdcdfocaa
