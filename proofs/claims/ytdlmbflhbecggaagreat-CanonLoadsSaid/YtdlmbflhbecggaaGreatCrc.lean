/- Sums of 32 bits: a byte further, by steps of one bit and of four; what a change does to a sum. Conditions: none. -/
import Derived.Laws.BitsAllLaws
import Derived.Test.YtdlmbflhbecggaaGreatEq
import Derived.Test.YtdlmbflhbecggaaGreatWriter
import Derived.IntWalk
import Derived.Lib.AppendZerosOnto
import Derived.Test.YtdlmbflhbecggaaGreatDec
set_option linter.unusedSimpArgs false
set_option linter.unusedVariables false
set_option linter.unnecessarySimpa false
set_option maxHeartbeats 16000000
set_option maxRecDepth 100000
namespace Go.Proofs.YtdlmbflhbecggaaGreat
end Go.Proofs.YtdlmbflhbecggaaGreat
/- The sum of bytes, by a table of sixteen numbers. Conditions: at most 2^30 bytes. -/
namespace Go.Proofs.YtdlmbflhbecggaaGreat
open Go.RowKit
end Go.Proofs.YtdlmbflhbecggaaGreat
/- Bytes in frames: a number's four bytes, slices one behind the other, a body's frame. Conditions: at most 2^28 bytes. -/
namespace Go.Proofs.YtdlmbflhbecggaaGreat
open Go.RowKit
/-- from block A on lie these slices of bytes -/
def SlicesAt (w : World) (A : Nat) (ls : List (Option Addr × Nat × Bytes)) : Prop :=
 ∀ j (h : j < ls.length), w.cell? ⟨A, j, none⟩ = some (.slice ls[j].1 ls[j].2.2.length ls[j].2.1) ∧ BytesIn w ls[j].1 ls[j].2.2
theorem SlicesAt.kept {w w' : World} {A : Nat} {ls : List (Option Addr × Nat × Bytes)} (h : SlicesAt w A ls) (hb : Below w.heap.size w w') : SlicesAt w' A ls := fun j hj => ⟨Proofs.YtdlmbflhbecggaaGreat.kept hb (h j hj).1, (h j hj).2.kept hb⟩
end Go.Proofs.YtdlmbflhbecggaaGreat
/- Bytes in frames, read: a number of four bytes, a frame, one frame. Conditions: at most 2^30 bytes. -/
namespace Go.Proofs.YtdlmbflhbecggaaGreat
open Go.RowKit
theorem BytesIn.part {w : World} {a : Option Addr} {l : Bytes} (h : BytesIn w a l) (i n : Nat) : BytesIn w (a.map (fun x => x.add i)) ((l.drop i).take n) := by
 rcases h with h | ⟨A, off, rfl, hb⟩
 ·exact Or.inl (by rw [h]; simp)
 ·refine Or.inr ⟨A, off + i, by simp [Addr.add_mid], fun j hj => ?_⟩
  have hj2 : j < l.length - i ∧ j < n := by simp at hj; omega
  have := hb (i + j) (by omega)
  rw [← Nat.add_assoc] at this
  rw [this, List.getElem_take, List.getElem_drop]
end Go.Proofs.YtdlmbflhbecggaaGreat
/- One frame; how many bytes a frame has; the frames at the beginning of bytes. Conditions: at most 2^30 bytes. -/
namespace Go.Proofs.YtdlmbflhbecggaaGreat
open Go.RowKit
end Go.Proofs.YtdlmbflhbecggaaGreat
/- The frames at the beginning of bytes. Conditions: at most 2^30 bytes. -/
namespace Go.Proofs.YtdlmbflhbecggaaGreat
open Go.RowKit
theorem BytesIn.tail {w : World} {a : Option Addr} {l : Bytes} (h : BytesIn w a l) (i : Nat) : BytesIn w (a.map (fun x => x.add i)) (l.drop i) := by
 have := h.part i l.length
 rwa [List.take_of_length_le (by simp)] at this
end Go.Proofs.YtdlmbflhbecggaaGreat
