/- An event's bytes. Conditions: texts of at most 2^24 bytes. -/
import Derived.Test.YtdlmbflhbecggaaGreatPut
set_option linter.unusedSimpArgs false
set_option linter.unusedVariables false
set_option linter.unnecessarySimpa false
set_option maxHeartbeats 16000000
set_option maxRecDepth 100000
namespace Go.Proofs.YtdlmbflhbecggaaGreat
open Go.RowKit
end Go.Proofs.YtdlmbflhbecggaaGreat
/- Two events that may be have the same bytes only if they are the same. Conditions: texts of at most 2^24 bytes. -/
namespace Go.Proofs.YtdlmbflhbecggaaGreat
theorem KA {d : Dot} (h : bu d = true) : 0 ≤ d.a.dev ∧ 0 ≤ d.a.inc ∧ 0 ≤ d.seq := by
 unfold bu iW at h
 simp only [Bool.and_eq_true, decide_eq_true_eq] at h
 omega
theorem o6 (d : Dot) : ∀ (p : Option Dot) (l : List Dot), di d p l = true → ∀ x ∈ l, bu x = true
 | _, [], _, x, hx => by simp at hx
 | p, y :: r, h, x, hx => by
   unfold di at h
   simp only [Bool.and_eq_true] at h
   rcases List.mem_cons.1 hx with rfl | hx
   ·have := h.1
    unfold jS at this
    simp only [Bool.and_eq_true] at this
    exact this.1
   ·exact o6 d _ r h.2 x hx
end Go.Proofs.YtdlmbflhbecggaaGreat
