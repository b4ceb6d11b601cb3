/- The disk, plainly; the small functions of package disk and of its reference: may a name be; a change; Arm; Down. Conditions: texts shorter than the greatest length. -/
import Derived.Test.YtbkelbdeodbhcaaChecked
import Derived.Test.YtbkelbdeodbhcaaKit
set_option linter.unusedSimpArgs false
set_option linter.unusedVariables false
set_option linter.unnecessarySimpa false
namespace Go.Proofs.Ytbkelbdeodbhcaa
open Go.RowKit

/-! ### plainly -/
def isLow (c : UInt8) : Bool := decide (97 ≤ c.toNat) && decide (c.toNat ≤ 122)
def nameOk (s : ByteArray) : Bool := decide (1 ≤ s.size) && (decide (s.size ≤ 16) && (bl s).all isLow)
/-- a file: its name, its bytes, how many are safe -/
structure DF where
  name : ByteArray
  b : Bytes
  safe : Nat
/-- a disk: its files by names, at which change it goes down, whether it is -/
structure DS where
  f : List DF
  arm : Nat
  down : Bool
def DS.change (d : DS) : DS := { d with arm := d.arm - 1, down := d.down || decide (d.arm = 1) }

theorem nameOk_size {s : ByteArray} (h : nameOk s = true) : 1 ≤ s.size ∧ s.size ≤ 16 := by
  unfold nameOk at h
  simp only [Bool.and_eq_true, decide_eq_true_eq] at h
  exact ⟨h.1, h.2.1⟩
theorem all_cons_low (c : UInt8) (l : Bytes) : (c :: l).all isLow = (isLow c && l.all isLow) := rfl

set_option maxHeartbeats 400000 in
theorem right_any (s : ByteArray) (w : World) (hs : s.size ≤ maxLen) :
    Calls Try.prog 39 #[.string s] w fun e w' => e = .returned (.bool (nameOk s)) ∧ w = w' := by
  unfold maxLen at hs
  by_cases h0 : 0 < s.size
  case neg =>
    have hr : nameOk s = false := by unfold nameOk; rw [decide_eq_false (by omega)]; rfl
    have h1 := str_nil h0
    have h1' := str_nil' h0
    go_enter Try.func39, Try.ntmps39
    go_wp2
    all_goals
      go_ret
      exact ⟨ret_bool hr.symm, rfl⟩
  case pos =>
  have n1 := str_ne h0
  have n2 := str_ne' h0
  by_cases h16 : s.size ≤ 16
  case neg =>
    have hr : nameOk s = false := by unfold nameOk; rw [decide_eq_false h16]; simp
    go_enter Try.func39, Try.ntmps39
    go_wp2
    all_goals
      go_ret
      exact ⟨ret_bool hr.symm, rfl⟩
  case pos =>
  have hr : nameOk s = (bl s).all isLow := by unfold nameOk; rw [decide_eq_true h16, decide_eq_true (show 1 ≤ s.size by omega)]; rfl
  have HR := Lib.hid hr
  clear hr
  go_enter Try.func39, Try.ntmps39
  go_wp2
  go_loop [13] (fun i => ∃ k : Nat, k ≤ s.size ∧ i = .int .i64 k ∧ nameOk s = ((bl s).drop k).all isLow) (fun i => s.size - (intOf i).toNat)
  case atStart => exact ⟨0, Nat.zero_le _, rfl, by rw [HR.out]; rfl⟩
  case round =>
    obtain ⟨k, hk, rfl, hpre⟩ := hrel
    have HP := Lib.hid hpre
    clear hpre
    by_cases hlt : k < s.size
    · have HD := Lib.hid (drop_cons s k hlt)
      by_cases hc : isLow s[k] = true
      · have HC := Lib.hid hc
        unfold isLow at hc
        simp only [Bool.and_eq_true, decide_eq_true_eq] at hc
        obtain ⟨c1, c2⟩ := hc
        go_wp2
        go_round
        case rel => exact ⟨k + 1, by omega, by go_num, by rw [HP.out, HD.out, all_cons_low, HC.out]; rfl⟩
        case measure => simp [intOf]; omega
      · have HC := Lib.hid (Bool.eq_false_iff.2 hc)
        unfold isLow at hc
        simp only [Bool.and_eq_true, decide_eq_true_eq, not_and] at hc
        have hc' : s[k].toNat < 97 ∨ 122 < s[k].toNat := by omega
        clear hc
        rcases hc' with c1 | c1
        all_goals
          go_wp2
          all_goals
            go_ret
            exact ⟨ret_bool (by rw [HP.out, HD.out, all_cons_low, HC.out]; rfl), rfl⟩
    · have HD := Lib.hid (drop_all s k hlt)
      go_wp2
      go_ret
      exact ⟨ret_bool (by rw [HP.out, HD.out]; rfl), rfl⟩

set_option maxHeartbeats 400000 in
theorem rRightName_any (s : ByteArray) (w : World) (hs : s.size ≤ maxLen) :
    Calls Try.prog 12 #[.string s] w fun e w' => e = .returned (.bool (nameOk s)) ∧ w = w' := by
  unfold maxLen at hs
  go_enter Try.func12, Try.ntmps12
  go_wp2
  go_loop [3] (fun i => ∃ k : Nat, k ≤ s.size ∧ i = .int .i64 k ∧ (bl s).all isLow = ((bl s).drop k).all isLow) (fun i => s.size - (intOf i).toNat)
  case atStart => exact ⟨0, Nat.zero_le _, rfl, rfl⟩
  case round =>
    obtain ⟨k, hk, rfl, hpre⟩ := hrel
    have HP := Lib.hid hpre
    clear hpre
    by_cases hlt : k < s.size
    · have HD := Lib.hid (drop_cons s k hlt)
      by_cases hc : isLow s[k] = true
      · have HC := Lib.hid hc
        unfold isLow at hc
        simp only [Bool.and_eq_true, decide_eq_true_eq] at hc
        obtain ⟨c1, c2⟩ := hc
        go_wp2
        go_round
        case rel => exact ⟨k + 1, by omega, by go_num, by rw [HP.out, HD.out, all_cons_low, HC.out]; rfl⟩
        case measure => simp [intOf]; omega
      · have HC := Lib.hid (Bool.eq_false_iff.2 hc)
        unfold isLow at hc
        simp only [Bool.and_eq_true, decide_eq_true_eq, not_and] at hc
        have hc' : s[k].toNat < 97 ∨ 122 < s[k].toNat := by omega
        clear hc
        rcases hc' with c1 | c1
        all_goals
          go_wp2
          all_goals
            go_ret
            exact ⟨ret_bool (by unfold nameOk; rw [HP.out, HD.out, all_cons_low, HC.out]; simp), rfl⟩
    · have HD := Lib.hid (drop_all s k hlt)
      have HE : Hid (nameOk s = (decide (1 ≤ s.size) && decide (s.size ≤ 16))) := Lib.hid (by unfold nameOk; rw [HP.out, HD.out]; simp)
      go_wp2
      all_goals
        go_ret
        exact ⟨ret_bool (by rw [HE.out]; rw [Bool.eq_iff_iff]; simp <;> omega), rfl⟩
end Go.Proofs.Ytbkelbdeodbhcaa
