/- Which events are short enough to be gone over: the reference's Light. Conditions: none. -/
import Derived.Test.YtcijajjngmmbeaaLoad
set_option linter.unusedSimpArgs false
set_option linter.unusedVariables false
set_option linter.unnecessarySimpa false
namespace Go.Proofs.Ytcijajjngmmbeaa
open Go.RowKit

def light (e : Ev) : Bool := decide (e.over.length ≤ 100) && (decide (e.key.name.size ≤ 2000) && (decide (e.key.domain.size ≤ 2000) && (decide (e.key.path.size ≤ 2000) && decide (e.ck.value.size ≤ 2000))))
theorem light_small {e : Ev} (h : light e = true) : EvSmall e := by
  unfold light at h
  simp only [Bool.and_eq_true, decide_eq_true_eq] at h
  obtain ⟨h1, h2, h3, h4, h5⟩ := h
  exact ⟨by omega, by omega, by omega, by omega, by omega⟩

end Go.Proofs.Ytcijajjngmmbeaa
