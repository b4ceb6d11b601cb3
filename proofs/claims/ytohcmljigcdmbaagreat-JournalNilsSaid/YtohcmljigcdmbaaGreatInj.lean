/- An event's bytes. Conditions: texts of at most 2^24 bytes. -/
import Derived.Test.YtohcmljigcdmbaaGreatPut
set_option linter.unusedSimpArgs false
set_option linter.unusedVariables false
set_option linter.unnecessarySimpa false
set_option maxHeartbeats 16000000
set_option maxRecDepth 100000
namespace Go.Proofs.YtohcmljigcdmbaaGreat
open Go.RowKit
end Go.Proofs.YtohcmljigcdmbaaGreat
/- Two events that may be have the same bytes only if they are the same. Conditions: texts of at most 2^24 bytes. -/
namespace Go.Proofs.YtohcmljigcdmbaaGreat
open Go.RowKit
theorem dotOk_pos {d : Dot} (h : dotOk d = true) : 0 ≤ d.a.dev ∧ 0 ≤ d.a.inc ∧ 0 ≤ d.seq := by
 unfold dotOk actorOk at h
 simp only [Bool.and_eq_true, decide_eq_true_eq] at h
 omega
theorem overFrom_all (d : Dot) : ∀ (p : Option Dot) (l : List Dot), overFrom d p l = true → ∀ x ∈ l, dotOk x = true
 | _, [], _, x, hx => by simp at hx
 | p, y :: r, h, x, hx => by
   unfold overFrom at h
   simp only [Bool.and_eq_true] at h
   rcases List.mem_cons.1 hx with rfl | hx
   ·have := h.1
    unfold overOne at this
    simp only [Bool.and_eq_true] at this
    exact this.1
   ·exact overFrom_all d _ r h.2 x hx
end Go.Proofs.YtohcmljigcdmbaaGreat
