/- The reference of package ascii (biscottiref06), third part: Number, Text. Conditions: texts of at most 2^30 bytes; numbers from 0 to 2^62. -/
import Derived.Test.YtdlhbmhdcdfocaaRefB
set_option linter.unusedSimpArgs false
set_option linter.unusedVariables false
set_option linter.unnecessarySimpa false
namespace Go.Proofs.Ytdlhbmhdcdfocaa
open Go.RowKit


set_option maxRecDepth 100000 in
set_option maxHeartbeats 1000000 in
theorem rNumber_any (s : ByteArray) (w : World) (hs : s.size ≤ 1073741824) :
    Calls Try.prog 79 #[.string s] w fun e w' => e = .returned (.tuple #[.int .i64 (number (bl s)).1, .bool (number (bl s)).2]) ∧ w = w' := by
  by_cases hneg : 0 < s.size ∧ ∀ h : 0 < s.size, s[0].toNat = 45
  · obtain ⟨h0, h45⟩ := hneg
    have h45' := h45 h0
    have hq : ((s[0].toNat : Int) == 45) = true := by simp; omega
    have HV : Hid (∀ t : ByteArray, bl t = (bl s).drop 1 → number (bl s) = if 1 < s.size ∧ (bl t).all isDigit = true then (- numL (bl t), true) else (0, false)) := fun t ht => by
      have h2 := number_neg s (s.extract 1 s.size) h0 h45' rfl
      have h3 : t = s.extract 1 s.size := bl_inj (by rw [ht, bl_extract, List.take_of_length_le (by simp [bl_length])])
      rw [h2, ← h3]
      have h4 : t.size = s.size - 1 := by rw [← bl_length t, ht]; simp [bl_length]
      simp only [h4, show 0 < s.size - 1 ↔ 1 < s.size by omega]
    clear h45 h45'
    by_cases hfs : 1 < s.size
    · have hfs2 : ((s.size : Int) == 1) = false := beq_eq_false_iff_ne.2 (by omega)
      have htl : bl (s.extract 1 s.size) = (bl s).drop 1 := by rw [bl_extract, List.take_of_length_le (by simp [bl_length])]
      have hts : (s.extract 1 s.size).size = s.size - 1 := by simp
      have hdl := digits_le (bl (s.extract 1 s.size))
      rw [bl_length] at hdl
      by_cases hall : (bl (s.extract 1 s.size)).all isDigit = true
      · have hnl : ¬ digits (bl (s.extract 1 s.size)) < (s.extract 1 s.size).size := fun h => (digits_lt_iff (bl (s.extract 1 s.size))).1 (by rw [bl_length]; exact h) hall
        have hge : (s.size : Int) - 1 ≤ (digits (bl (s.extract 1 s.size)) : Int) := by omega
        have HA := Lib.hid hall
        have hnb := numL_bd (bl (s.extract 1 s.size)) hall
        have HT := Lib.hid htl
        have hall2 : ∀ k (hk : k < s.size), 1 ≤ k → isDigit s[k] = true := fun k hk hfk => by
          have h1 := hall
          rw [htl] at h1
          refine List.all_eq_true.1 h1 _ ?_
          rw [List.mem_drop_iff_getElem]
          refine ⟨k - 1, by simp [bl_length]; omega, ?_⟩
          simp only [show 1 + (k - 1) = k by omega]
          rfl
        have HH := Lib.hid hall2
        have hle : (s.extract 1 s.size).size ≤ 9223372036854775807 := by omega
        clear hall hnl hall2 htl hts hdl
        go_enter Try.func79, Try.ntmps79
        go_wp2_with (go_at_call 78; go_loud (refine (rDigits_any _ _ (by unfold maxLen; omega)).mono ?_); rintro e w1 ⟨rfl, rfl⟩)
        go_loop [5, 6] (fun v i => ∃ (k : Nat) (n : Int), 1 ≤ k ∧ k ≤ s.size ∧ i = .int .i64 k ∧ v = .int .i64 n ∧ 0 ≤ n ∧ n ≤ 1099511627776 ∧ numL (bl (s.extract 1 s.size)) = ((bl s).drop k).foldl numStep n) (fun _ i => s.size - (intOf i).toNat)
        case atStart => exact ⟨1, 0, by omega, by omega, rfl, rfl, by omega, by omega, by rw [HT.out]; rfl⟩
        case round =>
          obtain ⟨k, n, hfk, hk, rfl, rfl, hn0, hn1, hpre⟩ := hrel
          have HP := Lib.hid hpre
          clear hpre
          by_cases hlt : k < s.size
          · have HD := Lib.hid (drop_cons s k hlt)
            have hdg := HH.out k hlt hfk
            have hbd := numStep_bd hn0 hdg
            have hdg2 : 48 ≤ s[k].toNat ∧ s[k].toNat ≤ 57 := by simpa [isDigit] using hdg
            obtain ⟨hg1, hg2⟩ := hdg2
            have HN : Hid (numStep n s[k] = min (n * 10 + ((s[k].toNat : Int) - 48)) 1099511627776) := rfl
            clear hdg
            go_wp2
            all_goals
              go_round
              case rel => exact ⟨k + 1, numStep n s[k], by omega, by omega, by go_num, by rw [HN.out]; exact congrArg _ (by omega), hbd.1, hbd.2, by rw [HP.out, HD.out]; rfl⟩
              case measure => simp [intOf] <;> omega
          · have HD := Lib.hid (drop_all s k hlt)
            have HE : Hid (numL (bl (s.extract 1 s.size)) = n) := by rw [Hid, HP.out, HD.out]; rfl
            go_wp2
            go_ret2
            exact ⟨ret_val (by rw [HV.out _ HT.out, if_pos ⟨hfs, HA.out⟩, HE.out]; rfl), rfl⟩
      · have hnl : digits (bl (s.extract 1 s.size)) < (s.extract 1 s.size).size := by have := (digits_lt_iff (bl (s.extract 1 s.size))).2 hall; rwa [bl_length] at this
        have hlt2 : (digits (bl (s.extract 1 s.size)) : Int) < (s.size : Int) - 1 := by omega
        have HA := Lib.hid hall
        have HT := Lib.hid htl
        have hle : (s.extract 1 s.size).size ≤ 9223372036854775807 := by omega
        clear hall htl hts hdl
        go_enter Try.func79, Try.ntmps79
        go_wp2_with (go_at_call 78; go_loud (refine (rDigits_any _ _ (by unfold maxLen; omega)).mono ?_); rintro e w1 ⟨rfl, rfl⟩)
        go_ret2
        exact ⟨ret_val (by rw [HV.out _ HT.out, if_neg (fun h => HA.out h.2)]; rfl), rfl⟩
    · have hfs2 : ((s.size : Int) == 1) = true := beq_iff_eq.2 (by omega)
      go_enter Try.func79, Try.ntmps79
      go_wp2
      go_ret2
      exact ⟨ret_val (by rw [HV.out (mkS ((bl s).drop 1)) rfl, if_neg (fun h => hfs h.1)]; rfl), rfl⟩
  · have HV : Hid (∀ t : ByteArray, bl t = (bl s).drop 0 → number (bl s) = if 0 < s.size ∧ (bl t).all isDigit = true then (numL (bl t), true) else (0, false)) := fun t ht => by
      rw [number_pos s hneg, ht]; rfl
    by_cases hs0 : 0 < s.size
    · have hq : ((s[0].toNat : Int) == 45) = false := by
        have : ¬ s[0].toNat = 45 := fun hh => hneg ⟨hs0, fun _ => hh⟩
        simp; omega
      clear hneg
      by_cases hfs : 0 < s.size
      · have hfs2 : ((s.size : Int) == 0) = false := beq_eq_false_iff_ne.2 (by omega)
        have htl : bl s = (bl s).drop 0 := by rfl
        have hts : s.size = s.size - 0 := by simp
        have hdl := digits_le (bl s)
        rw [bl_length] at hdl
        by_cases hall : (bl s).all isDigit = true
        · have hnl : ¬ digits (bl s) < s.size := fun h => (digits_lt_iff (bl s)).1 (by rw [bl_length]; exact h) hall
          have hge : ¬ digits (bl s) < s.size := by omega
          have HA := Lib.hid hall
          have hnb := numL_bd (bl s) hall
          have HT := Lib.hid htl
          have hall2 : ∀ k (hk : k < s.size), 0 ≤ k → isDigit s[k] = true := fun k hk hfk => by
            have h1 := hall
            rw [htl] at h1
            refine List.all_eq_true.1 h1 _ ?_
            rw [List.mem_drop_iff_getElem]
            refine ⟨k - 0, by simp [bl_length]; omega, ?_⟩
            simp only [show 0 + (k - 0) = k by omega]
            rfl
          have HH := Lib.hid hall2
          have hle : s.size ≤ 9223372036854775807 := by omega
          clear hall hnl hall2 htl hts hdl
          go_enter Try.func79, Try.ntmps79
          go_wp2_with (go_at_call 78; go_loud (refine (rDigits_any _ _ (by unfold maxLen; omega)).mono ?_); rintro e w1 ⟨rfl, rfl⟩)
          go_loop [5, 6] (fun v i => ∃ (k : Nat) (n : Int), 0 ≤ k ∧ k ≤ s.size ∧ i = .int .i64 k ∧ v = .int .i64 n ∧ 0 ≤ n ∧ n ≤ 1099511627776 ∧ numL (bl s) = ((bl s).drop k).foldl numStep n) (fun _ i => s.size - (intOf i).toNat)
          case atStart => exact ⟨0, 0, by omega, by omega, rfl, rfl, by omega, by omega, by rw [HT.out]; rfl⟩
          case round =>
            obtain ⟨k, n, hfk, hk, rfl, rfl, hn0, hn1, hpre⟩ := hrel
            have HP := Lib.hid hpre
            clear hpre
            by_cases hlt : k < s.size
            · have HD := Lib.hid (drop_cons s k hlt)
              have hdg := HH.out k hlt hfk
              have hbd := numStep_bd hn0 hdg
              have hdg2 : 48 ≤ s[k].toNat ∧ s[k].toNat ≤ 57 := by simpa [isDigit] using hdg
              obtain ⟨hg1, hg2⟩ := hdg2
              have HN : Hid (numStep n s[k] = min (n * 10 + ((s[k].toNat : Int) - 48)) 1099511627776) := rfl
              clear hdg
              go_wp2
              all_goals
                go_round
                case rel => exact ⟨k + 1, numStep n s[k], by omega, by omega, by go_num, by rw [HN.out]; exact congrArg _ (by omega), hbd.1, hbd.2, by rw [HP.out, HD.out]; rfl⟩
                case measure => simp [intOf] <;> omega
            · have HD := Lib.hid (drop_all s k hlt)
              have HE : Hid (numL (bl s) = n) := by rw [Hid, HP.out, HD.out]; rfl
              go_wp2
              go_ret2
              exact ⟨ret_val (by rw [HV.out _ HT.out, if_pos ⟨hfs, HA.out⟩, HE.out]; rfl), rfl⟩
        · have hnl : digits (bl s) < s.size := by have := (digits_lt_iff (bl s)).2 hall; rwa [bl_length] at this
          have hlt2 : digits (bl s) < s.size := by omega
          have HA := Lib.hid hall
          have HT := Lib.hid htl
          have hle : s.size ≤ 9223372036854775807 := by omega
          clear hall htl hts hdl
          go_enter Try.func79, Try.ntmps79
          go_wp2_with (go_at_call 78; go_loud (refine (rDigits_any _ _ (by unfold maxLen; omega)).mono ?_); rintro e w1 ⟨rfl, rfl⟩)
          go_ret2
          exact ⟨ret_val (by rw [HV.out _ HT.out, if_neg (fun h => HA.out h.2)]; rfl), rfl⟩
      · have hfs2 : ((s.size : Int) == 0) = true := beq_iff_eq.2 (by omega)
        go_enter Try.func79, Try.ntmps79
        go_wp2
        go_ret2
        exact ⟨ret_val (by rw [HV.out (mkS ((bl s).drop 0)) rfl, if_neg (fun h => hfs h.1)]; rfl), rfl⟩
    · clear hneg
      obtain rfl : s = ByteArray.empty := bl_inj (bl_nil hs0)
      have HW : Hid (number (bl ByteArray.empty) = (0, false)) := rfl
      clear HV hs0
      go_enter Try.func79, Try.ntmps79
      go_wp2
      go_ret2
      exact ⟨ret_val (by rw [HW.out]; rfl), rfl⟩
end Go.Proofs.Ytdlhbmhdcdfocaa
