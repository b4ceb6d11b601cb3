/- The index: labels gone over; an item removed; how many there are; an index made. Conditions: as in the text. -/
import Derived.Test.YtkklcpmbgfgcmaaGreatIxH
set_option linter.unusedSimpArgs false
set_option linter.unusedVariables false
set_option linter.unnecessarySimpa false
namespace Go.Proofs.YtkklcpmbgfgcmaaGreat
open Go.RowKit
variable {lo : Nat}
theorem its_some {T : Tree} {q : Path} {i : Nd} (h : T q = some i) : T.its q = some i.its := by unfold Tree.its; rw [h]; rfl
theorem its_inv {T : Tree} {q : Path} {l : List It} (h : T.its q = some l) : ∃ i, T q = some i ∧ i.its = l := by
 unfold Tree.its at h
 exact Option.map_eq_some_iff.1 h
theorem snoc_pre {p q : Path} (h : p <+: q) (hne : q ≠ p) : ∃ s, p ++ [s] <+: q := by
 obtain ⟨r, rfl⟩ := h
 cases r with
 | nil => exact absurd (List.append_nil p) hne
 | cons s r => exact ⟨s, r, by simp⟩
section
variable {w : World} {x : Nat} {n : Int} {B : Nat} {T T1 : Tree} {p : Path} {s : Bytes} {r : Path} {c : Nd}
end
end Go.Proofs.YtkklcpmbgfgcmaaGreat
