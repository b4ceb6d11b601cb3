/- The disk: New; a nil disk's Crash and Copy. Conditions: none. -/
import Derived.Test.YtbkelbdeodbhcaaDiskO
set_option linter.unusedSimpArgs false
set_option linter.unusedVariables false
set_option linter.unnecessarySimpa false
namespace Go.Proofs.Ytbkelbdeodbhcaa
open Go.RowKit

set_option maxHeartbeats 400000 in
theorem New_any (w : World) : Calls Try.prog 8 #[] w fun e w' => e = .returned (.pointer (some ⟨w.heap.size + 1, 0, none⟩)) ∧
    DkIn w' (fun k => w.heap.size ≤ k) (w.heap.size + 1) ⟨[], 0, false⟩ w.heap.size (.map []) ∧ Below w.heap.size w w' := by
  have hmm := @run_makeMap Try.prog
  have HM := Lib.hid (World.ownsMap_made w Try.prog 9 fileR)
  go_enter Try.func8, Try.ntmps8
  go_wp2
  all_goals
    go_ret
    refine ⟨by simp, ⟨Nat.le_succ _, ?_, Nat.le_refl _, HM.out.alloc _, ?_⟩, ((Below.refl _ w).alloc (Nat.le_refl _) _).alloc (by simp) _⟩
    · have e1 := (MapKept.heap_alloc (w.alloc (.map #[] 0)) (.cells #[.map (some w.heap.size), .int .i64 0, .bool false] 62)).1
      rw [show (w.alloc (.map #[] 0)).heap.size = w.heap.size + 1 by simp] at e1
      exact e1
    · refine ⟨fun s _ => rfl, fun s f hg => ?_, fun s t fb ht _ => ?_, fun s => rfl, rfl⟩
      · simp [getF] at hg
      · cases ht
set_option maxHeartbeats 400000 in
theorem Crash_nil (v : Value) (w : World) : Calls Try.prog 17 #[.pointer none, v] w fun e w' => e = .returned (.tuple #[]) ∧ w = w' := by
  go_enter Try.func17, Try.ntmps17
  go_wp2
  all_goals
    first | go_ret | go_returns | go_end0
    all_goals exact ⟨rfl, rfl⟩
set_option maxHeartbeats 400000 in
theorem Copy_nil (w : World) : Calls Try.prog 18 #[.pointer none] w fun e w' => e = .returned (.pointer none) ∧ w = w' := by
  go_enter Try.func18, Try.ntmps18
  go_wp2
  all_goals
    go_ret
    exact ⟨rfl, rfl⟩
end Go.Proofs.Ytbkelbdeodbhcaa
