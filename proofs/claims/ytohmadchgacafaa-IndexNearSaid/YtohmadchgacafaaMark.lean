/- Marks: may they be, are they the same. A mark's cells are a dot's. Conditions: at most 2^30 marks. -/
import Derived.Test.YtohmadchgacafaaDot
import Derived.Test.YtohmadchgacafaaLoad
set_option linter.unusedSimpArgs false
set_option linter.unusedVariables false
set_option linter.unnecessarySimpa false

namespace Go.Proofs.Ytohmadchgacafaa
open Go.RowKit

/-! ### may marks be? -/
def markNext : Option Dot → Dot → Bool
  | none, _ => true
  | some y, x => actorLt y.a x.a
def marksFrom : Option Dot → List Dot → Int
  | _, [] => 0
  | p, x :: r => if dotOk x = true then (if markNext p x = true then marksFrom (some x) r else 6) else 4
def marksErr (l : List Dot) : Int := if 4096 < l.length then 3 else marksFrom none l
theorem marksFrom_step (l : List Dot) (k : Nat) (h : k < l.length) : marksFrom (prevAt l k) (l.drop k) = if dotOk l[k] = true then (if markNext (prevAt l k) l[k] = true then marksFrom (prevAt l (k + 1)) (l.drop (k + 1)) else 6) else 4 := by
  rw [List.drop_eq_getElem_cons h, marksFrom]
  have : prevAt l (k + 1) = some l[k] := by simp [prevAt, h]
  rw [this]
theorem cmpActor_lt (a b : Actor) : decide (0 ≤ cmpActor a b) = !actorLt a b := by
  unfold cmpActor actorLt orI cmpI
  rw [Bool.eq_iff_iff]
  simp
  repeat' split
  all_goals omega
theorem cmpActor_in (a b : Actor) : -1 ≤ cmpActor a b ∧ cmpActor a b ≤ 1 := by
  unfold cmpActor orI cmpI
  repeat' split
  all_goals omega
end Go.Proofs.Ytohmadchgacafaa

/- May marks be: the program's check and the reference's. Conditions: at most 2^30 marks. -/
namespace Go.Proofs.Ytohmadchgacafaa
open Go.RowKit
end Go.Proofs.Ytohmadchgacafaa
