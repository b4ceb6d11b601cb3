/- Marks: may they be, are they the same. A mark's cells are a dot's. Conditions: at most 2^30 marks. -/
import Derived.Test.YtcijajjngmmbeaaOver
import Derived.Test.YtcijajjngmmbeaaSame
set_option linter.unusedSimpArgs false
set_option linter.unusedVariables false
set_option linter.unnecessarySimpa false

namespace Go.Proofs.Ytcijajjngmmbeaa
open Go.RowKit

/-! ### may marks be? -/
def markNext : Option Dot → Dot → Bool
  | none, _ => true
  | some y, x => actorLt y.a x.a
def marksFrom : Option Dot → List Dot → Int
  | _, [] => 0
  | p, x :: r => if dotOk x = true then (if markNext p x = true then marksFrom (some x) r else 6) else 4
def marksErr (l : List Dot) : Int := if 4096 < l.length then 3 else marksFrom none l
theorem marksFrom_step (l : List Dot) (k : Nat) (h : k < l.length) : marksFrom (prevAt l k) (l.drop k) = if dotOk l[k] = true then (if markNext (prevAt l k) l[k] = true then marksFrom (prevAt l (k + 1)) (l.drop (k + 1)) else 6) else 4 := by
  rw [List.drop_eq_getElem_cons h, marksFrom]
  have : prevAt l (k + 1) = some l[k] := by simp [prevAt, h]
  rw [this]
theorem cmpActor_lt (a b : Actor) : decide (0 ≤ cmpActor a b) = !actorLt a b := by
  unfold cmpActor actorLt orI cmpI
  rw [Bool.eq_iff_iff]
  simp
  repeat' split
  all_goals omega
theorem cmpActor_in (a b : Actor) : -1 ≤ cmpActor a b ∧ cmpActor a b ≤ 1 := by
  unfold cmpActor orI cmpI
  repeat' split
  all_goals omega
set_option maxRecDepth 100000 in
theorem vecRight_any (a : Actor) (n : Int) (w : World) :
    Calls Try.prog 34 #[.agg #[.int .i64 a.dev, .int .i64 a.inc], .int .i64 n] w fun e w' => e = .returned (.bool (dotOk ⟨a, n⟩)) ∧ Below w.heap.size w w' := by
  have HR := Lib.hid (fun (W : World) => dotRight_any ⟨a, n⟩ W)
  go_enter Try.func34, Try.ntmps34
  go_wp2_with (go_at_call 20; (with_reducible refine (HR.out _).mono ?_); rintro x w1 ⟨rfl, hb⟩)
  go_ret
  exact ⟨rfl, below2 (by go_grown) hb⟩
end Go.Proofs.Ytcijajjngmmbeaa

/- May marks be: the program's check and the reference's. Conditions: at most 2^30 marks. -/
namespace Go.Proofs.Ytcijajjngmmbeaa
open Go.RowKit
end Go.Proofs.Ytcijajjngmmbeaa
