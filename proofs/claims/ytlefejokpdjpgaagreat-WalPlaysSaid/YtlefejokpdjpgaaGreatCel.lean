/- Slices: cut out of slices, appended to slices of one's own; their cells. Conditions: none. -/
import Derived.Test.YtlefejokpdjpgaaGreatDiskC
import Derived.OrdersHeld
import Derived.Deep.RegionLaw
import Derived.Deep.RegionHeld3
import Derived.BigQuiet
import Derived.Maps.AppendAt
import Derived.Deep.AppendLies
import Derived.Great.BuildSlice
import Derived.Great.FillDense
import Derived.Test.YtlefejokpdjpgaaGreatKit
set_option linter.unusedSimpArgs false
set_option linter.unusedVariables false
set_option linter.unnecessarySimpa false
set_option maxHeartbeats 16000000
set_option maxRecDepth 100000
namespace Go.Proofs.YtlefejokpdjpgaaGreat
open Go.RowKit
/-- where a slice begins that is cut at element i, each of so many cells -/
def cutA (a : Option Addr) (cap i size : Nat) : Option Addr := if cap = i then a else a.map (fun x => x.add (i * size))
theorem BytesIn.cut {w : World} {a : Option Addr} {l : Bytes} (h : BytesIn w a l) {cap : Nat} (hc : l.length ≤ cap) (i : Nat) : BytesIn w (cutA a cap i 1) (l.drop i) := by
 unfold cutA
 split
 ·rename_i h0; exact Or.inl (List.drop_eq_nil_of_le (by omega))
 ·rcases h with h | ⟨A, off, rfl, hb⟩
  ·exact Or.inl (by rw [h]; simp)
  ·refine Or.inr ⟨A, off + i, by simp [Addr.add_mid], fun j hj => ?_⟩
   have h1 : i + j < l.length := by simp at hj; omega
   have := hb (i + j) h1
   rw [← Nat.add_assoc] at this
   rw [this, List.getElem_drop]
theorem BytesIn.take {w : World} {a : Option Addr} {l : Bytes} (h : BytesIn w a l) (n : Nat) : BytesIn w a (l.take n) := by
 rcases h with h | ⟨A, off, ha, hb⟩
 ·exact Or.inl (by rw [h]; simp)
 ·refine Or.inr ⟨A, off, ha, fun j hj => ?_⟩
  have h1 : j < l.length := by simp at hj; omega
  rw [hb j h1]; simp
section
variable {P : Program}
end
/-! ### cells -/
/-- a slice's cells, all of them -/
def CellsIn (w : World) (a : Option Addr) (cs : List Value) : Prop := cs = [] ∨ ∃ A off, a = some ⟨A, off, none⟩ ∧ w.rangeAt A off cs
theorem range_kept {w w' : World} {b o : Nat} {cs : List Value} (h : w.rangeAt b o cs) (hb : Below w.heap.size w w') : w'.rangeAt b o cs := fun j v hv => kept hb (h j v hv)
theorem CellsIn.kept {w w' : World} {a : Option Addr} {cs : List Value} (h : CellsIn w a cs) (hb : Below w.heap.size w w') : CellsIn w' a cs :=
 h.imp id fun ⟨A, off, h1, h2⟩ => ⟨A, off, h1, range_kept h2 hb⟩
theorem CellsIn.nil {w : World} {a : Option Addr} : CellsIn w a [] := Or.inl rfl
theorem CellsIn.take {w : World} {a : Option Addr} {cs : List Value} (h : CellsIn w a cs) (n : Nat) : CellsIn w a (cs.take n) := by
 rcases h with rfl | ⟨A, off, h1, h2⟩
 ·exact Or.inl (by simp)
 ·refine Or.inr ⟨A, off, h1, fun j v hv => h2 j v ?_⟩
  rw [List.getElem?_take] at hv
  split at hv
  ·exact hv
  ·cases hv
theorem CellsIn.cut {w : World} {a : Option Addr} {cs : List Value} {n cap size : Nat} (h : CellsIn w a cs) (hl : cs.length = n * size) (hc : n ≤ cap) (i : Nat) : CellsIn w (cutA a cap i size) (cs.drop (i * size)) := by
 unfold cutA
 split
 ·rename_i h0
  refine Or.inl (List.drop_eq_nil_of_le ?_)
  rw [hl]
  exact Nat.mul_le_mul_right _ (by omega)
 ·rcases h with h | ⟨A, off, rfl, hb⟩
  ·exact Or.inl (by rw [h]; simp)
  ·refine Or.inr ⟨A, off + i * size, by simp [Addr.add_mid], fun j v hv => ?_⟩
   rw [List.getElem?_drop] at hv
   have := hb (i * size + j) v hv
   rwa [← Nat.add_assoc] at this
theorem own_cellsIn {w : World} {base size n : Nat} {t : TypeId} {v : Value} {cs : List Value} (h : w.ownsRow base t size v n cs) : ∃ a cap, v = .slice a n cap ∧ CellsIn w a cs ∧ n ≤ cap := by
 have hlen := h.1
 rcases h.2 with ⟨rfl, hn⟩ | ⟨g, cap, cur, hv, _, _, hc, _⟩
 ·subst hn
  have : cs = [] := List.length_eq_zero_iff.1 (by rw [hlen]; simp)
  subst this
  exact ⟨none, 0, rfl, Or.inl rfl, Nat.le_refl _⟩
 ·refine ⟨some ⟨g, 0, none⟩, cap, hv, Or.inr ⟨g, 0, rfl, fun j u hu => ?_⟩, hc⟩
  have := World.ownsRow.cells (g := g) h (by rw [hv]; rfl) j u hu
  rw [Addr.add_mid, Nat.zero_add] at this
  rwa [Nat.zero_add]
section
variable {P : Program}
theorem CellsIn.grown {w w' : World} {a : Option Addr} {cs : List Value} {row : Option Nat} (h : CellsIn w a cs) (hg : w.grownBy w' row) (hne : ∀ b, a = some b → row ≠ some b.block) : CellsIn w' a cs := by
 rcases h with h | ⟨A, off, rfl, h2⟩
 ·exact Or.inl h
 ·refine Or.inr ⟨A, off, rfl, fun j v hv => ?_⟩
  have hc := h2 j v hv
  exact (World.cell?_of_block (w := w) (hg.block A (World.block_lt_of_cell? w _ hc) (fun e => hne _ rfl e.symm))).trans hc
theorem CellsIn.drewN {w : World} {a : Option Addr} {cs : List Value} (h : CellsIn w a cs) (n : Nat) : CellsIn (w.drewN n) a cs := h
end
section
variable {P : Program}
end
end Go.Proofs.YtlefejokpdjpgaaGreat
