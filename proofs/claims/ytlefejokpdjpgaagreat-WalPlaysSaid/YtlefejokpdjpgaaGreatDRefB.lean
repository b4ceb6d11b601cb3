/- The reference's disk: how it lies in memory; change, Find, get. Conditions: as in the text. -/
import Derived.Test.YtlefejokpdjpgaaGreatDiskI
import Derived.Test.YtlefejokpdjpgaaGreatCel
import Derived.Laws.ResultCell
import Derived.Deep.MidRow
import Derived.Test.YtlefejokpdjpgaaGreatDiskP
set_option linter.unusedSimpArgs false
set_option linter.unusedVariables false
set_option linter.unnecessarySimpa false
set_option maxHeartbeats 16000000
set_option maxRecDepth 100000
namespace Go.Proofs.YtlefejokpdjpgaaGreat
open Go.RowKit
/-- a file of the reference's, with where its bytes lie -/
structure RF where
 f : DF
 a : Option Addr
 cap : Nat
abbrev rfCells (g : RF) : List Value := [.string g.f.name, .slice g.a g.f.b.length g.cap, .int .i64 g.f.safe]
structure RFOk (w : World) (g : RF) : Prop where
 bytes : BytesIn w g.a g.f.b
 cap : g.f.b.length ≤ g.cap
theorem RFOk.kept {w w' : World} {g : RF} (h : RFOk w g) (hb : Below w.heap.size w w') : RFOk w' g := ⟨h.bytes.kept hb, h.cap⟩
/-- the cells of files, one behind the other -/
def fcs : List RF → List Value
 | [] => []
 | g :: l => rfCells g ++ fcs l
theorem fcs_length (l : List RF) : (fcs l).length = l.length * 3 := by
 induction l with
 | nil => rfl
 | cons g l ih => simp only [fcs, List.length_append, ih, List.length_cons, List.length_nil]; omega
theorem fcs_drop : ∀ (l : List RF) (k : Nat), (fcs l).drop (k * 3) = fcs (l.drop k)
 | l, 0 => by simp
 | [], k + 1 => by simp [fcs]
 | g :: l, k + 1 => by
   rw [show (k + 1) * 3 = k * 3 + 3 by omega, List.drop_succ_cons, ← fcs_drop l k]
   simp [fcs]
theorem fcs_at (l : List RF) (i : Nat) (h : i < l.length) (j : Nat) (hj : j < 3) : (fcs l)[i * 3 + j]? = (rfCells l[i])[j]? := by
 rw [← List.getElem?_drop, fcs_drop, List.drop_eq_getElem_cons h]
 simp only [fcs]
 rw [List.getElem?_append_left (by simpa using hj)]
/-- a slice of files -/
structure RFsIn (w : World) (a : Option Addr) (l : List RF) : Prop where
 rows : CellsIn w a (fcs l)
 ok : ∀ g ∈ l, RFOk w g
theorem RFsIn.kept {w w' : World} {a : Option Addr} {l : List RF} (h : RFsIn w a l) (hb : Below w.heap.size w w') : RFsIn w' a l := ⟨h.rows.kept hb, fun g hg => (h.ok g hg).kept hb⟩
theorem RFsIn.at {w : World} {a : Option Addr} {l : List RF} (h : RFsIn w a l) {k : Nat} (hk : k < l.length) :
 ∃ A off, a = some ⟨A, off, none⟩ ∧ (∀ i (h : i < l.length), w.rangeAt A (off + i * 3) (rfCells l[i])) ∧ RFOk w l[k] := by
 rcases h.rows with h1 | ⟨A, off, h1, h2⟩
 ·have := congrArg List.length h1
  rw [fcs_length] at this
  simp at this
  omega
 ·refine ⟨A, off, h1, fun i hi j v hv => ?_, h.ok _ (List.getElem_mem hk)⟩
  have hj : j < 3 := by have := (List.getElem?_eq_some_iff.1 hv).1; simpa using this
  have := h2 (i * 3 + j) v (by rw [fcs_at l i hi j hj]; exact hv)
  rwa [← Nat.add_assoc] at this
/-! ### get -/
theorem RFOk.zero (w : World) (s : ByteArray) : RFOk w ⟨⟨s, [], 0⟩, none, 0⟩ := ⟨Or.inl rfl, Nat.le_refl _⟩
end Go.Proofs.YtlefejokpdjpgaaGreat
