/- The reference's map: Alive, Key. Conditions: as in the text. -/
import Derived.Test.YtpbobhfnglikmaaGreatRelP
import Derived.Test.YtpbobhfnglikmaaGreatWin
set_option linter.unusedSimpArgs false
set_option linter.unusedVariables false
set_option linter.unnecessarySimpa false
set_option maxHeartbeats 16000000
set_option maxRecDepth 100000
namespace Go.Proofs.YtpbobhfnglikmaaGreat
open Go.RowKit
theorem own_grown_ne {w w' : World} {base n size : Nat} {e : TypeId} {v v2 : Value} {xs : List Value} (h : w.ownsRow base e size v n xs) (hne : ∀ g, v2.ownBlock = some g → v.ownBlock ≠ some g) (hg : w.grownBy w' v2.ownBlock) : w'.ownsRow base e size v n xs := by
 refine ⟨h.1, ?_⟩
 rcases h.2 with h2 | ⟨g, cap, cur, hv, hbs, hb, rest⟩
 ·exact .inl h2
 ·exact .inr ⟨g, cap, cur, hv, hbs, (hg.block g (lt_of_block hb) (fun e3 => hne g e3.symm (by rw [hv]; rfl))).trans hb, rest⟩
theorem filt_yes {p : EvIt → Bool} {l : List EvIt} {k : Nat} (h : k < l.length) (hp : p l[k] = true) : (l.take (k + 1)).filter p = (l.take k).filter p ++ [l[k]] := by
 rw [List.take_add_one, List.getElem?_eq_getElem h, List.filter_append]
 simp [hp]
theorem filt_no {p : EvIt → Bool} {l : List EvIt} {k : Nat} (h : k < l.length) (hp : p l[k] = false) : (l.take (k + 1)).filter p = (l.take k).filter p := by
 rw [List.take_add_one, List.getElem?_eq_getElem h, List.filter_append]
 simp [hp]
def aliveB (dead : List Dot) (z : EvIt) : Bool := decide (z.1.kind = 1) && !decide (z.1.dot ∈ dead)
/-! ### Key -/
end Go.Proofs.YtpbobhfnglikmaaGreat
