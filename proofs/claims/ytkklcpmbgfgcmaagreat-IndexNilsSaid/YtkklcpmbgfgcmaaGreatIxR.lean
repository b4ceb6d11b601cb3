/- The references on lists of items: Same, Without, Domain, Find, Near. Conditions: as in the text. -/
import Derived.Test.YtkklcpmbgfgcmaaGreatIxO
set_option linter.unusedSimpArgs false
set_option linter.unusedVariables false
set_option linter.unnecessarySimpa false
namespace Go.Proofs.YtkklcpmbgfgcmaaGreat
open Go.RowKit
/-! ### does a name end with a domain -/
theorem split_app (b : Bytes) : ∀ pre : Bytes, splitB 46 (pre ++ 46 :: b) = splitB 46 pre ++ splitB 46 b
 | [] => by
   show splitB 46 (46 :: b) = splitB 46 [] ++ splitB 46 b
   rw [splitB]
   simp [splitB]
 | x :: pre => by
   have ih := split_app b pre
   have hne := splitB_ne 46 pre
   rw [List.cons_append, splitB, splitB, ih]
   split
   ·rfl
   ·cases hs : splitB 46 pre with
    | nil => exact absurd hs hne
    | cons h t => rfl
/-! ### Same -/
/-! ### filters -/
end Go.Proofs.YtkklcpmbgfgcmaaGreat
