/- Bytes that grow: slices.Clone, varint.Put. Conditions: at most 2^30 bytes. -/
import Derived.Test.YtpbobhfnglikmaaGreatChecked
import Derived.Test.YtpbobhfnglikmaaGreatKit
import Derived.Maps.AppendAt
import Derived.Lib.SliceRun
import Derived.Deep.MidRow
set_option linter.unusedSimpArgs false
set_option linter.unusedVariables false
set_option linter.unnecessarySimpa false
set_option maxHeartbeats 16000000
set_option maxRecDepth 100000
namespace Go.Proofs.YtpbobhfnglikmaaGreat
open Go.RowKit
def byteVals (l : Bytes) : List Value := l.map fun x => .int .u8 x.toNat
/-- a slice of bytes reads as l -/
def BytesIn (w : World) (a : Option Addr) (l : Bytes) : Prop := l = [] ∨ ∃ A off, a = some ⟨A, off, none⟩ ∧ BytesAt w A off l
theorem BytesIn.kept {w w' : World} {a : Option Addr} {l : Bytes} (h : BytesIn w a l) (hb : Below w.heap.size w w') : BytesIn w' a l := by
 rcases h with h | ⟨A, off, h1, h2⟩
 ·exact Or.inl h
 ·exact Or.inr ⟨A, off, h1, h2.below hb⟩
theorem byteVals_length (l : Bytes) : (byteVals l).length = l.length := by simp [byteVals]
theorem BytesAt.news {w : World} {A off : Nat} {l : Bytes} (h : BytesAt w A off l) : ∀ j u, (byteVals l)[j]? = some u → w.cell? ((⟨A, off, none⟩ : Addr).add j) = some u := by
 intro j u hj
 obtain ⟨hj', rfl⟩ := List.getElem?_eq_some_iff.1 hj
 rw [byteVals_length] at hj'
 rw [Addr.add_mid]
 rw [h j hj']
 simp [byteVals]
end Go.Proofs.YtpbobhfnglikmaaGreat
