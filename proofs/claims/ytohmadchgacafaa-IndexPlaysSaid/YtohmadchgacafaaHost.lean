/- Package host and its reference compute the plain functions of Defs. Conditions: texts of at most 2^30 bytes. -/
import Derived.Test.YtohmadchgacafaaRefA
set_option linter.unusedSimpArgs false
set_option linter.unusedVariables false
set_option linter.unnecessarySimpa false
namespace Go.Proofs.Ytohmadchgacafaa
open Go.RowKit
end Go.Proofs.Ytohmadchgacafaa
/- Package host and its reference, second part: labels and addresses in brackets. Conditions: texts of at most 2^30 bytes. -/
namespace Go.Proofs.Ytohmadchgacafaa
open Go.RowKit
end Go.Proofs.Ytohmadchgacafaa
/- Package host and its reference, third part: the reference's label; addresses in brackets. Conditions: texts of at most 2^30 bytes. -/
namespace Go.Proofs.Ytohmadchgacafaa
open Go.RowKit
end Go.Proofs.Ytohmadchgacafaa
/- Package host and its reference, fourth part: four numbers, addresses, names. Conditions: texts of at most 2^30 bytes. -/
namespace Go.Proofs.Ytohmadchgacafaa
open Go.RowKit
/-- a slice of strings that the callee made, read -/
theorem strs_open {w : World} {base : Nat} {E : TypeId} {v : Value} {L : List Bytes} (h : w.ownsRow base E 1 v L.length (strVals L)) (hne : L ≠ []) :
 ∃ g cap, v = .slice (some ⟨g, 0, none⟩) L.length cap ∧ ∀ j (hj : j < L.length), w.cell? ⟨g, j, none⟩ = some (.string (mkS L[j])) := by
 have hc := fun g (hg : v.ownBlock = some g) => h.cells hg
 rcases h.2 with ⟨rfl, hn⟩ | ⟨g, cap, cur, rfl, rest⟩
 ·exact absurd (List.length_eq_zero_iff.1 hn) hne
 ·refine ⟨g, cap, rfl, fun j hj => ?_⟩
  have := hc g rfl j (.string (mkS L[j])) (by simp [strVals, hj])
  unfold Addr.add at this
  split at this
  ·rename_i h0; subst h0; exact this
  ·simpa using this
end Go.Proofs.Ytohmadchgacafaa
/- Package host's reference, fifth part: four numbers. Conditions: texts of at most 2^30 bytes. -/
namespace Go.Proofs.Ytohmadchgacafaa
open Go.RowKit
end Go.Proofs.Ytohmadchgacafaa
/- Package host's reference, sixth part: four numbers, walked. Conditions: texts of at most 2^30 bytes. -/
namespace Go.Proofs.Ytohmadchgacafaa
open Go.RowKit
end Go.Proofs.Ytohmadchgacafaa
/- Package host and its reference, last part: addresses, names, canonical texts. Conditions: texts of at most 2^30 bytes. -/
namespace Go.Proofs.Ytohmadchgacafaa
open Go.RowKit
end Go.Proofs.Ytohmadchgacafaa
/- host.Canon and the reference's Canonical; what is canonical has no capitals. Conditions: texts of at most 2^30 bytes. -/
namespace Go.Proofs.Ytohmadchgacafaa
open Go.RowKit
/-! ### what is canonical has no capitals -/
end Go.Proofs.Ytohmadchgacafaa
