/- Bytes that grow: slices.Clone, varint.Put. Conditions: at most 2^30 bytes. -/
import Derived.Test.YtkklcpmbgfgcmaaGreatChecked
import Derived.Test.YtkklcpmbgfgcmaaGreatKit
import Derived.Maps.AppendAt
import Derived.Lib.SliceRun
import Derived.Deep.MidRow
set_option linter.unusedSimpArgs false
set_option linter.unusedVariables false
set_option linter.unnecessarySimpa false
namespace Go.Proofs.YtkklcpmbgfgcmaaGreat
open Go.RowKit
/-- a slice of bytes reads as l -/
def BytesIn (w : World) (a : Option Addr) (l : Bytes) : Prop := l = [] ∨ ∃ A off, a = some ⟨A, off, none⟩ ∧ BytesAt w A off l
theorem BytesIn.kept {w w' : World} {a : Option Addr} {l : Bytes} (h : BytesIn w a l) (hb : Below w.heap.size w w') : BytesIn w' a l := by
 rcases h with h | ⟨A, off, h1, h2⟩
 ·exact Or.inl h
 ·exact Or.inr ⟨A, off, h1, h2.below hb⟩
end Go.Proofs.YtkklcpmbgfgcmaaGreat
/- varint.Put: short bytes. Conditions: at most 2^30 bytes. -/
namespace Go.Proofs.YtkklcpmbgfgcmaaGreat
open Go.RowKit
end Go.Proofs.YtkklcpmbgfgcmaaGreat
