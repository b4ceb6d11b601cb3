/- The disk's own cells: which change it goes down at, and whether it is; a nil disk. Conditions: as in the text. -/
import Derived.Test.YtbkelbdeodbhcaaDisk
import Derived.Test.YtbkelbdeodbhcaaFr
set_option linter.unusedSimpArgs false
set_option linter.unusedVariables false
set_option linter.unnecessarySimpa false
namespace Go.Proofs.Ytbkelbdeodbhcaa
open Go.RowKit

/-- block d holds a disk's cells: its map lies in block b -/
def DkCells (w : World) (d b arm : Nat) (down : Bool) : Prop := w.heap[d]? = some (.cells #[.map (some b), .int .i64 arm, .bool down] 62 (0, 0))
theorem three_cell {w : World} {R : Nat} {x y z : Value} {t : TypeId} (h : w.heap[R]? = some (.cells #[x, y, z] t (0, 0))) :
    w.cell? ⟨R, 0, none⟩ = some x ∧ w.cell? ⟨R, 1, none⟩ = some y ∧ w.cell? ⟨R, 2, none⟩ = some z ∧ w.frozen? ⟨R, 0, none⟩ = false ∧ w.frozen? ⟨R, 1, none⟩ = false ∧ w.frozen? ⟨R, 2, none⟩ = false := by
  simp [World.cell?, World.frozen?, h]
theorem three_set1 {w : World} {R : Nat} {x y z : Value} {t : TypeId} {f : Nat × Nat} (h : w.heap[R]? = some (.cells #[x, y, z] t f)) (v : Value) : (w.setCell ⟨R, 1, none⟩ v).heap[R]? = some (.cells #[x, v, z] t f) := by
  simp [World.setCell, Array.getElem?_modify, h]
theorem three_set2 {w : World} {R : Nat} {x y z : Value} {t : TypeId} {f : Nat × Nat} (h : w.heap[R]? = some (.cells #[x, y, z] t f)) (v : Value) : (w.setCell ⟨R, 2, none⟩ v).heap[R]? = some (.cells #[x, y, v] t f) := by
  simp [World.setCell, Array.getElem?_modify, h]

set_option maxHeartbeats 400000 in
theorem Arm_nil (n : Int) (w : World) : Calls Try.prog 24 #[.pointer none, .int .i64 n] w fun e w' => e = .returned (.int .i64 17) ∧ w = w' := by
  go_enter Try.func24, Try.ntmps24
  go_wp2
  all_goals
    go_ret
    exact ⟨rfl, rfl⟩

def armOk (n : Int) : Bool := decide (1 ≤ n) && decide (n ≤ 1048576)
set_option maxHeartbeats 400000 in
theorem Arm_any (d b arm : Nat) (down : Bool) (n : Int) (w : World) (h : DkCells w d b arm down) :
    Calls Try.prog 24 #[.pointer (some ⟨d, 0, none⟩), .int .i64 n] w fun e w' =>
      e = .returned (.int .i64 (if armOk n then 0 else 4)) ∧ DkCells w' d b (if armOk n then n.toNat else arm) down ∧ Fr (isR d) w w' := by
  have H := Lib.hid h
  obtain ⟨p0, p1, p2, f0, f1, f2⟩ := three_cell h
  clear h
  by_cases h1 : 1 ≤ n
  case neg =>
    have hr : armOk n = false := by unfold armOk; rw [decide_eq_false h1]; rfl
    simp only [hr, Bool.false_eq_true, if_false]
    have h1' : n < 1 := by omega
    clear hr
    go_enter Try.func24, Try.ntmps24
    go_wp2
    all_goals
      go_ret
      exact ⟨rfl, H.out, Fr.refl _ _⟩
  case pos =>
  by_cases h2 : n ≤ 1048576
  case neg =>
    have hr : armOk n = false := by unfold armOk; rw [decide_eq_false h2]; simp
    simp only [hr, Bool.false_eq_true, if_false]
    clear hr
    go_enter Try.func24, Try.ntmps24
    go_wp2
    all_goals
      go_ret
      exact ⟨rfl, H.out, Fr.refl _ _⟩
  case pos =>
  have hr : armOk n = true := by unfold armOk; rw [decide_eq_true h1, decide_eq_true h2]; rfl
  simp only [hr, if_true]
  clear hr
  have hn : ((n.toNat : Nat) : Int) = n := by omega
  have HN := Lib.hid hn
  clear hn
  go_enter Try.func24, Try.ntmps24
  go_wp2
  all_goals
    go_ret
    exact ⟨rfl, by unfold DkCells; rw [HN.out]; exact three_set1 H.out _, fr_set _⟩

set_option maxHeartbeats 400000 in
theorem Down_nil (w : World) : Calls Try.prog 25 #[.pointer none] w fun e w' => e = .returned (.bool false) ∧ w = w' := by
  go_enter Try.func25, Try.ntmps25
  go_wp2
  all_goals
    go_ret
    exact ⟨rfl, rfl⟩
set_option maxHeartbeats 400000 in
theorem Down_any (d b arm : Nat) (down : Bool) (w : World) (h : DkCells w d b arm down) : Calls Try.prog 25 #[.pointer (some ⟨d, 0, none⟩)] w fun e w' => e = .returned (.bool down) ∧ w = w' := by
  obtain ⟨p0, p1, p2, f0, f1, f2⟩ := three_cell h
  clear h
  go_enter Try.func25, Try.ntmps25
  go_wp2
  all_goals
    go_ret
    exact ⟨rfl, rfl⟩

/-- a change that may be: 0; 12: it is down -/
def chg (arm : Nat) (down : Bool) : Bool := down || decide (arm = 1)
set_option maxHeartbeats 400000 in
theorem change_any (d b arm : Nat) (down : Bool) (w : World) (h : DkCells w d b arm down) (ha : arm ≤ 1048576) :
    Calls Try.prog 35 #[.pointer (some ⟨d, 0, none⟩)] w fun e w' =>
      e = .returned (.int .i64 (if chg arm down then 12 else 0)) ∧ DkCells w' d b (arm - 1) (chg arm down) ∧ Fr (isR d) w w' := by
  have H := Lib.hid h
  obtain ⟨p0, p1, p2, f0, f1, f2⟩ := three_cell h
  clear h
  by_cases h0 : arm = 0
  case pos =>
    subst h0
    have hr : chg 0 down = down := by cases down <;> rfl
    simp only [hr]
    clear hr
    cases down
    all_goals
      go_enter Try.func35, Try.ntmps35
      go_wp2
      all_goals
        go_ret
        exact ⟨rfl, H.out, Fr.refl _ _⟩
  case neg =>
  obtain ⟨m, rfl⟩ : ∃ m, arm = m + 1 := ⟨arm - 1, by omega⟩
  by_cases hm : m = 0
  case pos =>
    subst hm
    have hr : chg 1 down = true := by cases down <;> rfl
    simp only [hr, if_true]
    clear hr
    cases down
    all_goals
      go_enter Try.func35, Try.ntmps35
      go_wp2
      all_goals
        go_ret
        exact ⟨rfl, three_set2 (three_set1 H.out _) _, (fr_set _).again (fr_set _)⟩
  case neg =>
  have hr : chg (m + 1) down = down := by cases down <;> simp [chg, hm]
  simp only [hr]
  clear hr
  have q : ((m : Int) + 1 - 1 == 0) = false := beq_eq_false_iff_ne.2 (by omega)
  have q' : ((m : Int) == 0) = false := beq_eq_false_iff_ne.2 (by omega)
  cases down
  all_goals
    go_enter Try.func35, Try.ntmps35
    go_wp2
    all_goals
      go_ret
      exact ⟨rfl, by unfold DkCells; simpa using three_set2 (three_set1 H.out (.int .i64 m)) _, (fr_set _).again (fr_set _)⟩
end Go.Proofs.Ytbkelbdeodbhcaa
