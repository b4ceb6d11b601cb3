/- What the references pack: numbers, texts, dots, stamps. Conditions: at most 2^29 bytes. -/
import Derived.Test.YtnpdfmpjjomhcaaBytes
import Derived.Test.YtnpdfmpjjomhcaaMem
set_option linter.unusedSimpArgs false
set_option linter.unusedVariables false
set_option linter.unnecessarySimpa false
namespace Go.Proofs.Ytnpdfmpjjomhcaa
open Go.RowKit

theorem own_src {w : World} {base : Nat} {v : Value} {l : Bytes} (h : w.ownsRow base 5 1 v l.length (byteVals l)) (hl : l ≠ []) : ∃ ad cap, v = .slice (some ad) l.length cap ∧ ∀ j u, (byteVals l)[j]? = some u → w.cell? (ad.add j) = some u := by
  obtain ⟨a, cap, rfl, hb⟩ := own_bytes h
  rcases hb with h0 | ⟨A, off, rfl, hb⟩
  · exact absurd h0 hl
  · exact ⟨⟨A, off, none⟩, cap, rfl, hb.news⟩
theorem shortB_ne (n : Nat) : shortB n ≠ [] := by
  rw [shortB]; split <;> simp
theorem own_below {w w1 : World} {base : Nat} {v : Value} {n : Nat} {xs : List Value} (h : w.ownsRow base 5 1 v n xs) (hb : Below w.heap.size w w1) : w1.ownsRow base 5 1 v n xs := ownsRow_below h hb

end Go.Proofs.Ytnpdfmpjjomhcaa

/- What the references pack: texts, flags, dots, stamps. Conditions: at most 2^29 bytes. -/
namespace Go.Proofs.Ytnpdfmpjjomhcaa
open Go.RowKit

end Go.Proofs.Ytnpdfmpjjomhcaa
