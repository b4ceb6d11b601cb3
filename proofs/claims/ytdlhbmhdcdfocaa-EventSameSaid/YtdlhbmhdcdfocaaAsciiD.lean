/- ascii.Number. -/
import Derived.Test.YtdlhbmhdcdfocaaAsciiC
set_option linter.unusedSimpArgs false
set_option linter.unusedVariables false
set_option linter.unnecessarySimpa false
namespace Go.Proofs.Ytdlhbmhdcdfocaa
open Go.RowKit

theorem numStep_bd {n : Int} {c : UInt8} (h0 : 0 ≤ n) (hc : isDigit c = true) : 0 ≤ numStep n c ∧ numStep n c ≤ 1099511627776 := by
  unfold isDigit at hc; simp at hc; unfold numStep; omega
theorem foldl_bd : ∀ (l : Bytes) (n : Int), 0 ≤ n → n ≤ 1099511627776 → l.all isDigit = true → 0 ≤ l.foldl numStep n ∧ l.foldl numStep n ≤ 1099511627776
  | [], n, h0, h1, _ => ⟨h0, h1⟩
  | c :: r, n, h0, _, hl => by
    simp only [List.all_cons, Bool.and_eq_true] at hl
    have := numStep_bd h0 hl.1
    exact foldl_bd r _ this.1 this.2 hl.2
theorem numL_bd (l : Bytes) (h : l.all isDigit = true) : 0 ≤ numL l ∧ numL l ≤ 1099511627776 := foldl_bd l 0 (by omega) (by omega) h
theorem isDigit_at {t : ByteArray} (h : (bl t).all isDigit = true) {k : Nat} (hk : k < t.size) : isDigit t[k] = true :=
  List.all_eq_true.1 h _ (by show t.data[k] ∈ t.data.toList; simp)

theorem number_dash (c : UInt8) (r : Bytes) (h : c.toNat = 45) : number (c :: r) = if 0 < r.length ∧ r.all isDigit = true then (- numL r, true) else (0, false) := by
  unfold number
  simp only [h, if_true]
  cases r with
  | nil => simp
  | cons a b =>
    by_cases ha : (a :: b).all isDigit = true
    · rw [if_neg (by simp only [ha]; simp), if_pos ⟨by simp, ha⟩]
    · rw [if_pos (Or.inr ha), if_neg (fun x => ha x.2)]
theorem number_else (c : UInt8) (r : Bytes) (h : ¬ c.toNat = 45) : number (c :: r) = if (c :: r).all isDigit = true then (numL (c :: r), true) else (0, false) := by
  unfold number
  simp only [h, if_false]
  by_cases ha : (c :: r).all isDigit = true
  · rw [if_neg (fun x => x ha), if_pos ha]
  · rw [if_pos ha, if_neg ha]
theorem number_neg (s t : ByteArray) (h0 : 0 < s.size) (h : s[0].toNat = 45) (ht : t = s.extract 1 s.size) : number (bl s) = if 0 < t.size ∧ (bl t).all isDigit = true then (- numL (bl t), true) else (0, false) := by
  have e : bl s = s[0] :: (bl s).drop 1 := by have := drop_cons s 0 h0; simpa using this
  have e2 : bl t = (bl s).drop 1 := by rw [ht, bl_extract, List.take_of_length_le (by simp [bl_length])]
  rw [← bl_length t, e2, e, number_dash _ _ h]
  rfl
theorem number_pos (s : ByteArray) (h : ¬ (0 < s.size ∧ ∀ h : 0 < s.size, s[0].toNat = 45)) : number (bl s) = if 0 < s.size ∧ (bl s).all isDigit = true then (numL (bl s), true) else (0, false) := by
  by_cases h0 : 0 < s.size
  · have e : bl s = s[0] :: (bl s).drop 1 := by have := drop_cons s 0 h0; simpa using this
    have h45 : ¬ s[0].toNat = 45 := fun hh => h ⟨h0, fun _ => hh⟩
    rw [e, number_else _ _ h45, ← e]
    by_cases ha : (bl s).all isDigit = true
    · rw [if_pos ha, if_pos ⟨h0, ha⟩]
    · rw [if_neg ha, if_neg (fun x => ha x.2)]
  · rw [if_neg (fun x => h0 x.1), bl_nil h0]; rfl

set_option maxRecDepth 100000 in
set_option maxHeartbeats 1000000 in
theorem Number_any (s : ByteArray) (w : World) (hs : s.size ≤ 1073741824) :
    Calls Try.prog 76 #[.string s] w fun e w' => e = .returned (.tuple #[.int .i64 (number (bl s)).1, .bool (number (bl s)).2]) ∧ w = w' := by
  by_cases hneg : 0 < s.size ∧ ∀ h : 0 < s.size, s[0].toNat = 45
  · obtain ⟨h0, h45⟩ := hneg
    have h45' := h45 h0
    have hq : ((s[0].toNat : Int) == 45) = true := by simp; omega
    have hse := str_ne h0
    have hse' := str_ne' h0
    obtain ⟨t, ht⟩ : ∃ t, t = s.extract 1 s.size := ⟨_, rfl⟩
    have HV := Lib.hid (number_neg s t h0 h45' ht)
    have hts : t.size ≤ s.size := by rw [ht]; simp
    have hx : s.extract 1 s.size = t := ht.symm
    clear h45 h45' ht
    by_cases h0t : 0 < t.size
    · have he := str_ne h0t
      have he' := str_ne' h0t
      skip
      have hdl := digits_le (bl t)
      rw [bl_length] at hdl
      by_cases hall : (bl t).all isDigit = true
      · have hnl : ¬ digits (bl t) < t.size := fun h => (digits_lt_iff (bl t)).1 (by rw [bl_length]; exact h) hall
        have hge : (t.size : Int) ≤ (digits (bl t) : Int) := by omega
        have HA := Lib.hid hall
        have hnb := numL_bd (bl t) hall
        clear hall hnl
        go_enter Try.func76, Try.ntmps76
        go_wp2_with (go_at_call 77; refine (Digits_any _ _ (by unfold maxLen; omega)).mono ?_; rintro e w1 ⟨rfl, rfl⟩)
        go_loop [6, 7, 29] (fun v _ i => ∃ (k : Nat) (n : Int), k ≤ t.size ∧ i = .int .i64 k ∧ v = .int .i64 n ∧ 0 ≤ n ∧ n ≤ 1099511627776 ∧ numL (bl t) = ((bl t).drop k).foldl numStep n) (fun _ _ i => t.size - (intOf i).toNat)
        case atStart => exact ⟨0, 0, Nat.zero_le _, rfl, rfl, by omega, by omega, rfl⟩
        case round =>
          obtain ⟨k, n, hk, rfl, rfl, hn0, hn1, hpre⟩ := hrel
          have HP := Lib.hid hpre
          clear hpre
          by_cases hlt : k < t.size
          · have HD := Lib.hid (drop_cons t k hlt)
            have hdg := isDigit_at HA.out hlt
            have hbd := numStep_bd hn0 hdg
            have hdg2 : 48 ≤ t[k].toNat ∧ t[k].toNat ≤ 57 := by simpa [isDigit] using hdg
            obtain ⟨hg1, hg2⟩ := hdg2
            have HN : Hid (numStep n t[k] = min (n * 10 + ((t[k].toNat : Int) - 48)) 1099511627776) := rfl
            clear hdg
            go_wp2
            go_round
            case rel => exact ⟨k + 1, numStep n t[k], by omega, by go_num, by rw [HN.out]; exact congrArg _ (by split <;> omega), hbd.1, hbd.2, by rw [HP.out, HD.out]; rfl⟩
            case measure => simp [intOf]; omega
          · have HD := Lib.hid (drop_all t k hlt)
            have HE : Hid (numL (bl t) = n) := by rw [Hid, HP.out, HD.out]; rfl
            go_wp2
            go_ret2
            exact ⟨ret_val (by rw [HV.out, if_pos ⟨h0t, HA.out⟩, HE.out]; rfl), rfl⟩
      · have hnl : digits (bl t) < t.size := by have := (digits_lt_iff (bl t)).2 hall; rwa [bl_length] at this
        have HA := Lib.hid hall
        clear hall
        go_enter Try.func76, Try.ntmps76
        go_wp2_with (go_at_call 77; refine (Digits_any _ _ (by unfold maxLen; omega)).mono ?_; rintro e w1 ⟨rfl, rfl⟩)
        go_ret2
        exact ⟨ret_val (by rw [HV.out, if_neg (fun h => HA.out h.2)]; rfl), rfl⟩
    · have he := str_nil h0t
      have he' := str_nil' h0t
      go_enter Try.func76, Try.ntmps76
      go_wp2
      go_ret2
      exact ⟨ret_val (by rw [HV.out, if_neg (fun h => h0t h.1)]; rfl), rfl⟩
  · have HV := Lib.hid (number_pos s hneg)
    have hqq : Hid (∀ h : 0 < s.size, ((s[0].toNat : Int) == 45) = false) := fun h => by
      have : ¬ s[0].toNat = 45 := fun hh => hneg ⟨h, fun _ => hh⟩
      simp; omega
    clear hneg
    have hts : s.size ≤ s.size := Nat.le_refl _
    obtain ⟨t, rfl⟩ : ∃ t, t = s := ⟨_, rfl⟩
    by_cases h0t : 0 < t.size
    · have he := str_ne h0t
      have he' := str_ne' h0t
      have hq := hqq.out h0t
      have hdl := digits_le (bl t)
      rw [bl_length] at hdl
      by_cases hall : (bl t).all isDigit = true
      · have hnl : ¬ digits (bl t) < t.size := fun h => (digits_lt_iff (bl t)).1 (by rw [bl_length]; exact h) hall
        have hge : (t.size : Int) ≤ (digits (bl t) : Int) := by omega
        have HA := Lib.hid hall
        have hnb := numL_bd (bl t) hall
        clear hall hnl
        go_enter Try.func76, Try.ntmps76
        go_wp2_with (go_at_call 77; refine (Digits_any _ _ (by unfold maxLen; omega)).mono ?_; rintro e w1 ⟨rfl, rfl⟩)
        go_loop [6, 7, 29] (fun v _ i => ∃ (k : Nat) (n : Int), k ≤ t.size ∧ i = .int .i64 k ∧ v = .int .i64 n ∧ 0 ≤ n ∧ n ≤ 1099511627776 ∧ numL (bl t) = ((bl t).drop k).foldl numStep n) (fun _ _ i => t.size - (intOf i).toNat)
        case atStart => exact ⟨0, 0, Nat.zero_le _, rfl, rfl, by omega, by omega, rfl⟩
        case round =>
          obtain ⟨k, n, hk, rfl, rfl, hn0, hn1, hpre⟩ := hrel
          have HP := Lib.hid hpre
          clear hpre
          by_cases hlt : k < t.size
          · have HD := Lib.hid (drop_cons t k hlt)
            have hdg := isDigit_at HA.out hlt
            have hbd := numStep_bd hn0 hdg
            have hdg2 : 48 ≤ t[k].toNat ∧ t[k].toNat ≤ 57 := by simpa [isDigit] using hdg
            obtain ⟨hg1, hg2⟩ := hdg2
            have HN : Hid (numStep n t[k] = min (n * 10 + ((t[k].toNat : Int) - 48)) 1099511627776) := rfl
            clear hdg
            go_wp2
            go_round
            case rel => exact ⟨k + 1, numStep n t[k], by omega, by go_num, by rw [HN.out]; exact congrArg _ (by split <;> omega), hbd.1, hbd.2, by rw [HP.out, HD.out]; rfl⟩
            case measure => simp [intOf]; omega
          · have HD := Lib.hid (drop_all t k hlt)
            have HE : Hid (numL (bl t) = n) := by rw [Hid, HP.out, HD.out]; rfl
            go_wp2
            go_ret2
            exact ⟨ret_val (by rw [HV.out, if_pos ⟨h0t, HA.out⟩, HE.out]; rfl), rfl⟩
      · have hnl : digits (bl t) < t.size := by have := (digits_lt_iff (bl t)).2 hall; rwa [bl_length] at this
        have HA := Lib.hid hall
        clear hall
        go_enter Try.func76, Try.ntmps76
        go_wp2_with (go_at_call 77; refine (Digits_any _ _ (by unfold maxLen; omega)).mono ?_; rintro e w1 ⟨rfl, rfl⟩)
        go_ret2
        exact ⟨ret_val (by rw [HV.out, if_neg (fun h => HA.out h.2)]; rfl), rfl⟩
    · have he := str_nil h0t
      have he' := str_nil' h0t
      go_enter Try.func76, Try.ntmps76
      go_wp2
      go_ret2
      exact ⟨ret_val (by rw [HV.out, if_neg (fun h => h0t h.1)]; rfl), rfl⟩
end Go.Proofs.Ytdlhbmhdcdfocaa
