/- The orders of dots and actors as functions for a sort: what they leave behind. Conditions: none. -/
import Derived.Test.YtkklcpmbgfgcmaaGreatKeys
import Derived.Sort.Grow
import Derived.Deep.Draws
import Derived.Test.YtkklcpmbgfgcmaaGreatVec
import Derived.Sort.Statements
import Derived.Shelf.SlSortCmp.Insertion
set_option linter.unusedSimpArgs false
set_option linter.unusedVariables false
set_option linter.unnecessarySimpa false
namespace Go.Proofs.YtkklcpmbgfgcmaaGreat
open Go.RowKit
/-- nothing that was there has turned; draws alone -/
structure Up (w w' : World) : Prop where
 below : Below w.heap.size w w'
 drawn : w.drawn ≤ w'.drawn
theorem Up.grown {w w' : World} (h : Up w w') : ∃ q os, w' = Go.Sort.grow (w.drewN q) os := by
 obtain ⟨⟨h1, h2, h3, h4, h5⟩, h6⟩ := h
 refine ⟨w'.drawn - w.drawn, w'.heap.extract w.heap.size w'.heap.size, ?_⟩
 obtain ⟨hp, tp, dr, os, out⟩ := w'
 obtain ⟨hp0, tp0, dr0, os0, out0⟩ := w
 simp only [Go.Sort.grow, World.drewN] at *
 subst h1 h2 h3
 simp only [World.mk.injEq, true_and, and_true]
 refine ⟨?_, by omega⟩
 apply Array.ext_getElem?
 intro k
 rw [Array.getElem?_append]
 split
 ·rename_i hk; exact h5 k hk
 ·rename_i hk
  rw [Array.getElem?_extract]
  split
  ·congr 1; omega
  ·rename_i hlt
   exact Array.getElem?_eq_none (by omega)
theorem Up.refl (w : World) : Up w w := ⟨Below.refl _ _, Nat.le_refl _⟩
theorem Up.trans {a b c : World} (h : Up a b) (k : Up b c) : Up a c := ⟨below2 h.below k.below, Nat.le_trans h.drawn k.drawn⟩
end Go.Proofs.YtkklcpmbgfgcmaaGreat
/- Sorted lists, plainly: dots each once; what a sort leaves. Conditions: none. -/
namespace Go.Proofs.YtkklcpmbgfgcmaaGreat
end Go.Proofs.YtkklcpmbgfgcmaaGreat
