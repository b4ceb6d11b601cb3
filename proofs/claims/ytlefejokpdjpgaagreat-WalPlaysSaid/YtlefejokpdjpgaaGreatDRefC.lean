/- The reference's disk: Without, Set. Conditions: as in the text. -/
import Derived.Test.YtlefejokpdjpgaaGreatDRefB
import Derived.Sort.Walk0
set_option linter.unusedSimpArgs false
set_option linter.unusedVariables false
set_option linter.unnecessarySimpa false
set_option maxHeartbeats 16000000
set_option maxRecDepth 100000
namespace Go.Proofs.YtlefejokpdjpgaaGreat
open Go.RowKit
theorem RFsIn.own {w : World} {base : Nat} {t : TypeId} {v : Value} {l : List RF} (h : w.ownsRow base t 3 v l.length (fcs l)) (hok : ∀ g ∈ l, RFOk w g) : ∃ a cap, v = .slice a l.length cap ∧ RFsIn w a l ∧ l.length ≤ cap := by
 obtain ⟨a, cap, h1, h2, h3⟩ := own_cellsIn h
 exact ⟨a, cap, h1, ⟨h2, hok⟩, h3⟩
/-! ### Set -/
/-- how many files are ahead of a new one -/
def ahead (l : List RF) (g : RF) : Nat := (l.takeWhile fun x => nameLt x.f.name g.f.name).length
end Go.Proofs.YtlefejokpdjpgaaGreat
