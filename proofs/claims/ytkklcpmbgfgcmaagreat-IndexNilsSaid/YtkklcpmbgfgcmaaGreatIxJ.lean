/- The index: an item removed; an index made; how many items there are. Conditions: as in the text. -/
import Derived.Test.YtkklcpmbgfgcmaaGreatIxI
set_option linter.unusedSimpArgs false
set_option linter.unusedVariables false
set_option linter.unnecessarySimpa false
namespace Go.Proofs.YtkklcpmbgfgcmaaGreat
open Go.RowKit
variable {lo : Nat}
set_option maxHeartbeats 400000 in
theorem ixLen_any {w : World} {x : Nat} {n : Int} {B : Nat} {T : Tree} (h : TrIn lo w x n B T) : Calls Tryz.prog 14 #[ndVal x] w fun e w' => e = .returned (.int .i64 n) ∧ w = w' := by
 obtain ⟨i0, i1⟩ := h.idx_cell
 clear h
 go_enter Tryz.func14, Tryz.ntmps14
 go_wp2
 all_goals
  go_ret
  exact ⟨rfl, rfl⟩
end Go.Proofs.YtkklcpmbgfgcmaaGreat
