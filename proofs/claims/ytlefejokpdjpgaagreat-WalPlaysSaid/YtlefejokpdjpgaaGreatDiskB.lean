/- The disk, plainly; the small functions of package disk and of its reference: may a name be; a change; Arm; Down. Conditions: texts shorter than the greatest length. -/
import Derived.Test.YtlefejokpdjpgaaGreatChecked
import Derived.Test.YtlefejokpdjpgaaGreatKit
set_option linter.unusedSimpArgs false
set_option linter.unusedVariables false
set_option linter.unnecessarySimpa false
set_option maxHeartbeats 16000000
set_option maxRecDepth 100000
namespace Go.Proofs.YtlefejokpdjpgaaGreat
open Go.RowKit
/-! ### plainly -/
def isLow (c : UInt8) : Bool := decide (97 ≤ c.toNat) && decide (c.toNat ≤ 122)
def nameOk (s : ByteArray) : Bool := decide (1 ≤ s.size) && (decide (s.size ≤ 16) && (bl s).all isLow)
/-- a file: its name, its bytes, how many are safe -/
structure DF where
 name : ByteArray
 b : Bytes
 safe : Nat
/-- a disk: its files by names, at which change it goes down, whether it is -/
structure DS where
 f : List DF
 arm : Nat
 down : Bool
def DS.change (d : DS) : DS := { d with arm := d.arm - 1, down := d.down || decide (d.arm = 1) }
theorem nameOk_size {s : ByteArray} (h : nameOk s = true) : 1 ≤ s.size ∧ s.size ≤ 16 := by
 unfold nameOk at h
 simp only [Bool.and_eq_true, decide_eq_true_eq] at h
 exact ⟨h.1, h.2.1⟩
theorem all_cons_low (c : UInt8) (l : Bytes) : (c :: l).all isLow = (isLow c && l.all isLow) := rfl
theorem right_any (s : ByteArray) (w : World) (hs : s.size ≤ maxLen) :
 Calls Tryz.prog 85 #[.string s] w fun e w' => e = .returned (.bool (nameOk s)) ∧ w = w' := by
 unfold maxLen at hs
 by_cases h0 : 0 < s.size
 case neg =>
  have hr : nameOk s = false := by unfold nameOk; rw [decide_eq_false (by omega)]; rfl
  have h1 := str_nil h0
  have h1' := str_nil' h0
  go_enter Tryz.func85, Tryz.ntmps85
  go_wp2
  all_goals
   go_ret
   exact ⟨ret_bool hr.symm, rfl⟩
 case pos =>
 have n1 := str_ne h0
 have n2 := str_ne' h0
 by_cases h16 : s.size ≤ 16
 case neg =>
  have hr : nameOk s = false := by unfold nameOk; rw [decide_eq_false h16]; simp
  go_enter Tryz.func85, Tryz.ntmps85
  go_wp2
  all_goals
   go_ret
   exact ⟨ret_bool hr.symm, rfl⟩
 case pos =>
 have hr : nameOk s = (bl s).all isLow := by unfold nameOk; rw [decide_eq_true h16, decide_eq_true (show 1 ≤ s.size by omega)]; rfl
 have HR := Lib.hid hr
 clear hr
 go_enter Tryz.func85, Tryz.ntmps85
 go_wp2
 go_loop [13] (fun i => ∃ k : Nat, k ≤ s.size ∧ i = .int .i64 k ∧ nameOk s = ((bl s).drop k).all isLow) (fun i => s.size - (intOf i).toNat)
 case atStart => exact ⟨0, Nat.zero_le _, rfl, by rw [HR.out]; rfl⟩
 case round =>
  obtain ⟨k, hk, rfl, hpre⟩ := hrel
  have HP := Lib.hid hpre
  clear hpre
  by_cases hlt : k < s.size
  ·have HD := Lib.hid (drop_cons s k hlt)
   by_cases hc : isLow s[k] = true
   ·have HC := Lib.hid hc
    unfold isLow at hc
    simp only [Bool.and_eq_true, decide_eq_true_eq] at hc
    obtain ⟨c1, c2⟩ := hc
    go_wp2
    go_round
    case rel => exact ⟨k + 1, by omega, by go_num, by rw [HP.out, HD.out, all_cons_low, HC.out]; rfl⟩
    case measure => simp [intOf]; omega
   ·have HC := Lib.hid (Bool.eq_false_iff.2 hc)
    unfold isLow at hc
    simp only [Bool.and_eq_true, decide_eq_true_eq, not_and] at hc
    have hc' : s[k].toNat < 97 ∨ 122 < s[k].toNat := by omega
    clear hc
    rcases hc' with c1 | c1
    all_goals
     go_wp2
     all_goals
      go_ret
      exact ⟨ret_bool (by rw [HP.out, HD.out, all_cons_low, HC.out]; rfl), rfl⟩
  ·have HD := Lib.hid (drop_all s k hlt)
   go_wp2
   go_ret
   exact ⟨ret_bool (by rw [HP.out, HD.out]; rfl), rfl⟩
/-- block d holds a disk's cells: its map lies in block b -/
def DkCells (w : World) (d b arm : Nat) (down : Bool) : Prop := w.heap[d]? = some (.cells #[.map (some b), .int .i64 arm, .bool down] 73 (0, 0))
theorem three_cell {w : World} {R : Nat} {x y z : Value} {t : TypeId} (h : w.heap[R]? = some (.cells #[x, y, z] t (0, 0))) :
 w.cell? ⟨R, 0, none⟩ = some x ∧ w.cell? ⟨R, 1, none⟩ = some y ∧ w.cell? ⟨R, 2, none⟩ = some z ∧ w.frozen? ⟨R, 0, none⟩ = false ∧ w.frozen? ⟨R, 1, none⟩ = false ∧ w.frozen? ⟨R, 2, none⟩ = false := by
 simp [World.cell?, World.frozen?, h]
theorem three_set1 {w : World} {R : Nat} {x y z : Value} {t : TypeId} {f : Nat × Nat} (h : w.heap[R]? = some (.cells #[x, y, z] t f)) (v : Value) : (w.setCell ⟨R, 1, none⟩ v).heap[R]? = some (.cells #[x, v, z] t f) := by
 simp [World.setCell, Array.getElem?_modify, h]
theorem three_set2 {w : World} {R : Nat} {x y z : Value} {t : TypeId} {f : Nat × Nat} (h : w.heap[R]? = some (.cells #[x, y, z] t f)) (v : Value) : (w.setCell ⟨R, 2, none⟩ v).heap[R]? = some (.cells #[x, y, v] t f) := by
 simp [World.setCell, Array.getElem?_modify, h]
def armOk (n : Int) : Bool := decide (1 ≤ n) && decide (n ≤ 1048576)
/-- a change that may be: 0; 12: it is down -/
def chg (arm : Nat) (down : Bool) : Bool := down || decide (arm = 1)
theorem change_any (d b arm : Nat) (down : Bool) (w : World) (h : DkCells w d b arm down) (ha : arm ≤ 1048576) :
 Calls Tryz.prog 52 #[.pointer (some ⟨d, 0, none⟩)] w fun e w' =>
  e = .returned (.int .i64 (if chg arm down then 12 else 0)) ∧ DkCells w' d b (arm - 1) (chg arm down) ∧ Fr (isR d) w w' := by
 have H := Lib.hid h
 obtain ⟨p0, p1, p2, f0, f1, f2⟩ := three_cell h
 clear h
 by_cases h0 : arm = 0
 case pos =>
  subst h0
  have hr : chg 0 down = down := by cases down <;> rfl
  simp only [hr]
  clear hr
  cases down
  all_goals
   go_enter Tryz.func52, Tryz.ntmps52
   go_wp2
   all_goals
        go_ret
        exact ⟨rfl, H.out, Fr.refl _ _⟩
 case neg =>
 obtain ⟨m, rfl⟩ : ∃ m, arm = m + 1 := ⟨arm - 1, by omega⟩
 by_cases hm : m = 0
 case pos =>
  subst hm
  have hr : chg 1 down = true := by cases down <;> rfl
  simp only [hr, if_true]
  clear hr
  cases down
  all_goals
   go_enter Tryz.func52, Tryz.ntmps52
   go_wp2
   all_goals
        go_ret
        exact ⟨rfl, three_set2 (three_set1 H.out _) _, (fr_set _).again (fr_set _)⟩
 case neg =>
 have hr : chg (m + 1) down = down := by cases down <;> simp [chg, hm]
 simp only [hr]
 clear hr
 have q : ((m : Int) + 1 - 1 == 0) = false := beq_eq_false_iff_ne.2 (by omega)
 have q' : ((m : Int) == 0) = false := beq_eq_false_iff_ne.2 (by omega)
 cases down
 all_goals
  go_enter Tryz.func52, Tryz.ntmps52
  go_wp2
  all_goals
   go_ret
   exact ⟨rfl, by unfold DkCells; simpa using three_set2 (three_set1 H.out (.int .i64 m)) _, (fr_set _).again (fr_set _)⟩
end Go.Proofs.YtlefejokpdjpgaaGreat
