/- Package host and its reference, second part: labels and addresses in brackets. Conditions: texts of at most 2^30 bytes. -/
import Derived.Test.YtnpdfmpjjomhcaaHost
set_option linter.unusedSimpArgs false
set_option linter.unusedVariables false
set_option linter.unnecessarySimpa false
namespace Go.Proofs.Ytnpdfmpjjomhcaa
open Go.RowKit

theorem bl_get (s : ByteArray) (k : Nat) (h : k < s.size) : (bl s)[k]'(by rw [bl_length]; exact h) = s[k] := rfl

set_option maxRecDepth 100000 in
set_option maxHeartbeats 1000000 in
theorem label_any (s : ByteArray) (w : World) (hs : s.size ≤ 1073741824) :
    Calls Try.prog 88 #[.string s] w fun e w' => e = .returned (.bool (label (bl s))) ∧ w = w' := by
  by_cases h0 : 0 < s.size
  · have he := str_ne h0
    have he' := str_ne' h0
    by_cases h63 : s.size ≤ 63
    · have HL := Lib.hid (label_eq (bl s) (by rw [bl_length]; omega) (by rw [bl_length]; omega))
      go_enter Try.func88, Try.ntmps88
      go_wp2
      go_loop [3, 13] (fun _ i => ∃ k : Nat, k ≤ s.size ∧ i = .int .i64 k ∧ label (bl s) = labelFrom (bl s) k) (fun _ i => s.size - (intOf i).toNat)
      case atStart => exact ⟨0, Nat.zero_le _, rfl, HL.out⟩
      case round =>
        obtain ⟨k, hk, rfl, hpre⟩ := hrel
        by_cases hlt : k < s.size
        · have hst := labelFrom_step (bl s) k hlt
          rw [bl_get s k hlt, bl_length] at hst
          have HS : Hid (label (bl s) = (signAt s[k] (decide (k = 0) || decide (k = s.size - 1)) && labelFrom (bl s) (k + 1))) := by rw [Hid, hpre, hst]
          clear hst hpre
          by_cases hk0 : k = 0
          · have e0 : ((k : Int) == 0) = true := beq_iff_eq.2 (by omega)
            have HK : Hid ((decide (k = 0) || decide (k = s.size - 1)) = true) := by simp [Hid, hk0]
            have hk0' : k < 1 := by omega
            clear hk0
            rw [HK.out] at HS
            cases hq : signAt s[k] true with
            | true =>
              rw [hq] at HS
              go_wp2_with (go_at_call 93; refine (sign_any _ true _).mono ?_; rintro e w1 ⟨rfl, rfl⟩)
              go_round
              case rel => exact ⟨k + 1, by omega, by go_num, by rw [HS.out]; simp⟩
              case measure => simp [intOf] <;> omega
            | false =>
              rw [hq] at HS
              go_wp2_with (go_at_call 93; refine (sign_any _ true _).mono ?_; rintro e w1 ⟨rfl, rfl⟩)
              go_ret
              exact ⟨ret_bool (by rw [HS.out]; simp), rfl⟩
          · have e0 : ((k : Int) == 0) = false := beq_eq_false_iff_ne.2 (by omega)
            by_cases hk1 : k = s.size - 1
            · have e1 : ((k : Int) == (s.size : Int) - 1) = true := beq_iff_eq.2 (by omega)
              have HK : Hid ((decide (k = 0) || decide (k = s.size - 1)) = true) := by simp [Hid, hk1]
              clear hk0 hk1
              rw [HK.out] at HS
              cases hq : signAt s[k] true with
              | true =>
                rw [hq] at HS
                go_wp2_with (go_at_call 93; refine (sign_any _ true _).mono ?_; rintro e w1 ⟨rfl, rfl⟩)
                go_round
                case rel => exact ⟨k + 1, by omega, by go_num, by rw [HS.out]; simp⟩
                case measure => simp [intOf] <;> omega
              | false =>
                rw [hq] at HS
                go_wp2_with (go_at_call 93; refine (sign_any _ true _).mono ?_; rintro e w1 ⟨rfl, rfl⟩)
                go_ret
                exact ⟨ret_bool (by rw [HS.out]; simp), rfl⟩
            · have e1 : ((k : Int) == (s.size : Int) - 1) = false := beq_eq_false_iff_ne.2 (by omega)
              have HK : Hid ((decide (k = 0) || decide (k = s.size - 1)) = false) := by simp [Hid, hk0, hk1]
              clear hk0 hk1
              rw [HK.out] at HS
              cases hq : signAt s[k] false with
              | true =>
                rw [hq] at HS
                go_wp2_with (go_at_call 93; refine (sign_any _ false _).mono ?_; rintro e w1 ⟨rfl, rfl⟩)
                go_round
                case rel => exact ⟨k + 1, by omega, by go_num, by rw [HS.out]; simp⟩
                case measure => simp [intOf] <;> omega
              | false =>
                rw [hq] at HS
                go_wp2_with (go_at_call 93; refine (sign_any _ false _).mono ?_; rintro e w1 ⟨rfl, rfl⟩)
                go_ret
                exact ⟨ret_bool (by rw [HS.out]; simp), rfl⟩
        · have HE : Hid (label (bl s) = true) := by
            have : k = (bl s).length := by rw [bl_length]; omega
            rw [Hid, hpre, this]; exact labelFrom_all _ (by rw [bl_length]; exact h0)
          clear hpre
          go_wp2
          go_ret
          exact ⟨ret_bool HE.out.symm, rfl⟩
    · have HE : Hid (label (bl s) = false) := by
        unfold Hid label; rw [bl_length]; simp [show ¬ s.size ≤ 63 from h63]
      go_enter Try.func88, Try.ntmps88
      go_wp2
      go_ret
      exact ⟨ret_bool HE.out.symm, rfl⟩
  · obtain rfl : s = ByteArray.empty := bl_inj (bl_nil h0)
    have HE : Hid (label (bl ByteArray.empty) = false) := rfl
    go_enter Try.func88, Try.ntmps88
    go_wp2
    go_ret
    exact ⟨ret_bool HE.out.symm, rfl⟩
end Go.Proofs.Ytnpdfmpjjomhcaa
