/- Slices of events: how they lie in memory; are they the same, do they rise. Conditions: at most 2^30 events, texts of at most 2^30 bytes. -/
import Derived.Test.YtkklcpmbgfgcmaaGreatLoad
import Derived.Test.YtkklcpmbgfgcmaaGreatMem
set_option linter.unusedSimpArgs false
set_option linter.unusedVariables false
set_option linter.unnecessarySimpa false
namespace Go.Proofs.YtkklcpmbgfgcmaaGreat
open Go.RowKit
abbrev EvIt := Ev × Option Addr × Nat
abbrev itEv (x : EvIt) : List Value := evCells x.1 x.2.1 x.2.2
structure EvsIn (w : World) (a : Option Addr) (ls : List EvIt) : Prop where
 rows : ls = [] ∨ ∃ A off, a = some ⟨A, off, none⟩ ∧ ∀ i (h : i < ls.length), w.rangeAt A (off + i * 19) (itEv ls[i])
 dots : ∀ x ∈ ls, DotsIn w x.2.1 x.1.over
theorem EvsIn.kept {w w' : World} {a : Option Addr} {ls : List EvIt} (h : EvsIn w a ls) (hb : Below w.heap.size w w') : EvsIn w' a ls :=
 ⟨h.rows.imp id fun ⟨A, off, h1, h2⟩ => ⟨A, off, h1, fun i hi => rangeAt_kept (h2 i hi) hb⟩, fun x hx => (h.dots x hx).kept hb⟩
theorem EvsIn.at {w : World} {a : Option Addr} {ls : List EvIt} (h : EvsIn w a ls) {k : Nat} (hk : k < ls.length) :
 ∃ A off, a = some ⟨A, off, none⟩ ∧ (∀ i (h : i < ls.length), w.rangeAt A (off + i * 19) (itEv ls[i])) ∧ DotsIn w ls[k].2.1 ls[k].1.over := by
 rcases h.rows with h1 | ⟨A, off, h1, h2⟩
 ·subst h1; simp at hk
 ·exact ⟨A, off, h1, h2, h.dots _ (List.getElem_mem hk)⟩
/-! ### are they the same -/
end Go.Proofs.YtkklcpmbgfgcmaaGreat
/- Slices of events: the program's Equal, Light of all, do they rise. Conditions: at most 2^30 events, texts of at most 2^30 bytes. -/
namespace Go.Proofs.YtkklcpmbgfgcmaaGreat
open Go.RowKit
end Go.Proofs.YtkklcpmbgfgcmaaGreat
