/- The law's comparison Is; what IndexTurned's list is, plainly. Conditions: as in the text. -/
import Derived.Test.YtohmadchgacafaaIxW
set_option linter.unusedSimpArgs false
set_option linter.unusedVariables false
set_option linter.unnecessarySimpa false
namespace Go.Proofs.Ytohmadchgacafaa
open Go.RowKit
variable {lo : Nat}
set_option maxRecDepth 100000 in
set_option maxHeartbeats 2000000 in
theorem is_true {w : World} {x K : Nat} {S : List It} (h : IxAt lo w x S K) (hg : Good S) (hK : K ≤ 536870912) (a : Option Addr) (cap : Nat) (hin : ItsIn w a S) :
 Calls Try.prog 20 #[ndVal x, .slice a S.length cap] w fun e w' => e = .returned (.bool true) ∧ Below w.heap.size w w' := by
 have hlen := hg.len
 have HI := Lib.hid (items_s h hg hK)
 have HS := Lib.hid (fun (u : Option Addr) (cu : Nat) (X : World) (hu : ItsIn X u S) (hv : ItsIn X a S) => (decide_eq_true (rfl : S = S) ▸ rSameI_any u a cu cap S S X (by omega) (by omega) hu hv : Calls Try.prog 10 #[.slice u S.length cu, .slice a S.length cap] X fun e w' => e = .returned (.bool true) ∧ Below X.heap.size X w'))
 have HL := Lib.hid (fun (X : World) (hX : Below w.heap.size w X) => len_s (h.kept hX))
 have HN := Lib.hid (fun (X : World) (hX : Below w.heap.size w X) => nodes_c (h.kept hX) hg hK)
 have HR := Lib.hid (fun (X : World) (hX : Below w.heap.size w X) => rNodes45_any a cap S X (by omega) hg.dom (CellsIn.kept hin hX))
 clear h hg
 go_enter Try.func20, Try.ntmps20
 go_wp2_with (first
  | (go_at_call 24; (refine HI.out.mono ?_); rintro e w1 ⟨v1, rfl, hown1, hb1⟩; obtain ⟨a1, c1, rfl, hin1, _⟩ := own_cellsIn hown1; clear hown1)
  | (go_at_call 10; (with_reducible refine (HS.out _ _ _ hin1 (CellsIn.kept hin hb1)).mono ?_); rintro e w2 ⟨rfl, hb2⟩; have hb12 := below2 hb1 hb2)
  | (go_at_call 22; (refine (HL.out _ hb12).mono ?_); rintro e w3 ⟨rfl, rfl⟩)
  | (go_at_call 23; (refine (HN.out _ hb12).mono ?_); rintro e w4 ⟨rfl, hb4⟩; have hb14 := below2 hb12 hb4)
  | (go_at_call 36; (refine (HR.out _ hb14).mono ?_); rintro e w5 ⟨rfl, hb5⟩))
 all_goals
  go_ret
  exact ⟨rfl, below2 hb14 hb5⟩
end Go.Proofs.Ytohmadchgacafaa
