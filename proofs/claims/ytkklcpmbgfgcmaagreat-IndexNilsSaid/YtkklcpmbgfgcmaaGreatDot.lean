/- Packages dot and clock, their tests and orders, and the references'. Conditions: none. -/
import Derived.Test.YtkklcpmbgfgcmaaGreatChecked
import Derived.Test.YtkklcpmbgfgcmaaGreatEq
set_option linter.unusedSimpArgs false
set_option linter.unusedVariables false
set_option linter.unnecessarySimpa false
namespace Go.Proofs.YtkklcpmbgfgcmaaGreat
open Go.RowKit
end Go.Proofs.YtkklcpmbgfgcmaaGreat
/- What an event may be over: event.over. Conditions: none. -/
namespace Go.Proofs.YtkklcpmbgfgcmaaGreat
open Go.RowKit
/-- dots in memory, three cells each -/
structure DotsAt (w : World) (A off : Nat) (l : List Dot) : Prop where
 dev : ∀ i (h : i < l.length), w.cell? ⟨A, off + i * 3, none⟩ = some (.int .i64 l[i].a.dev)
 inc : ∀ i (h : i < l.length), w.cell? ⟨A, off + i * 3 + 1, none⟩ = some (.int .i64 l[i].a.inc)
 seq : ∀ i (h : i < l.length), w.cell? ⟨A, off + i * 3 + 2, none⟩ = some (.int .i64 l[i].seq)
theorem DotsAt.kept {w w' : World} {A off : Nat} {l : List Dot} (h : DotsAt w A off l) (hb : Below w.heap.size w w') : DotsAt w' A off l :=
 ⟨fun i hi => YtkklcpmbgfgcmaaGreat.kept hb (h.dev i hi), fun i hi => YtkklcpmbgfgcmaaGreat.kept hb (h.inc i hi), fun i hi => YtkklcpmbgfgcmaaGreat.kept hb (h.seq i hi)⟩
/-- a slice of dots -/
def DotsIn (w : World) (a : Option Addr) (l : List Dot) : Prop := l = [] ∨ ∃ A off, a = some ⟨A, off, none⟩ ∧ DotsAt w A off l
theorem DotsIn.kept {w w' : World} {a : Option Addr} {l : List Dot} (h : DotsIn w a l) (hb : Below w.heap.size w w') : DotsIn w' a l := by
 rcases h with h | ⟨A, off, h1, h2⟩
 ·exact Or.inl h
 ·exact Or.inr ⟨A, off, h1, h2.kept hb⟩
end Go.Proofs.YtkklcpmbgfgcmaaGreat
