/- The reference's disk: Append. Conditions: as in the text. -/
import Derived.Test.YtlefejokpdjpgaaGreatDPlain
import Derived.Test.YtlefejokpdjpgaaGreatDiskL
set_option linter.unusedSimpArgs false
set_option linter.unusedVariables false
set_option linter.unnecessarySimpa false
set_option maxHeartbeats 16000000
set_option maxRecDepth 100000
namespace Go.Proofs.YtlefejokpdjpgaaGreat
open Go.RowKit
theorem BytesIn.cells {w : World} {a : Option Addr} {l : Bytes} (h : BytesIn w a l) : CellsIn w a (byteVals l) := by
 rcases h with rfl | ⟨A, off, h1, h2⟩
 ·exact Or.inl rfl
 ·refine Or.inr ⟨A, off, h1, fun j v hv => ?_⟩
  have := h2.news j v hv
  rwa [Addr.add_mid] at this
theorem own_bytesIn {w : World} {base : Nat} {v : Value} {n : Nat} {l : Bytes} (h : w.ownsRow base 5 1 v n (byteVals l)) : ∃ a cap, v = .slice a l.length cap ∧ BytesIn w a l ∧ l.length ≤ cap := by
 have hn : n = l.length := by have := h.1; rw [byteVals_length] at this; omega
 subst hn
 obtain ⟨a, cap, h1, h2, h3⟩ := own_cellsIn h
 refine ⟨a, cap, h1, ?_, h3⟩
 rcases h2 with h2 | ⟨A, off, h2, h4⟩
 ·left
  have := congrArg List.length h2
  rw [byteVals_length] at this
  exact List.length_eq_zero_iff.1 this
 ·exact Or.inr ⟨A, off, h2, fun j hj => h4 j _ (by simp [byteVals, hj])⟩
end Go.Proofs.YtlefejokpdjpgaaGreat
