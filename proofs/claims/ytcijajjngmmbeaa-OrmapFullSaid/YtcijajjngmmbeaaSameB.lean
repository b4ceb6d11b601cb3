/- Bytes compared. Conditions: at most 2^30 of them. -/
import Derived.Test.YtcijajjngmmbeaaPack
import Derived.WalkSmall
set_option linter.unusedSimpArgs false
set_option linter.unusedVariables false
set_option linter.unnecessarySimpa false
namespace Go.Proofs.Ytcijajjngmmbeaa
open Go.RowKit

theorem take_ne {α : Type} {l m : List α} {k : Nat} (h1 : k < l.length) (h2 : k < m.length) (h : l[k] ≠ m[k]) : l ≠ m := fun e => h (by subst e; rfl)
theorem take_next {α : Type} {l m : List α} {k : Nat} (h1 : k < l.length) (h2 : k < m.length) (hp : l.take k = m.take k) (h : l[k] = m[k]) : l.take (k + 1) = m.take (k + 1) := by
  rw [List.take_succ_eq_append_getElem h1, List.take_succ_eq_append_getElem h2, hp, h]
theorem take_all {α : Type} {l m : List α} {k : Nat} (h1 : ¬ k < l.length) (h2 : ¬ k < m.length) (hp : l.take k = m.take k) : l = m := by
  rwa [List.take_of_length_le (by omega), List.take_of_length_le (by omega)] at hp
theorem len_ne {α : Type} {l m : List α} (h : ¬ l.length = m.length) : ¬ l = m := fun e => h (by rw [e])


end Go.Proofs.Ytcijajjngmmbeaa
