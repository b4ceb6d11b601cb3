/- Frames: nothing that was there has turned, but for some blocks. Conditions: none. -/
import Derived.Test.YtcijajjngmmbeaaGreatKit
set_option linter.unusedSimpArgs false
set_option linter.unusedVariables false
set_option linter.unnecessarySimpa false
namespace Go.Proofs.YtcijajjngmmbeaaGreat
open Go.RowKit

/-- Nothing that was there has turned, but for the blocks of S. -/
structure Fr (S : Nat → Prop) (w w' : World) : Prop where
  os : w'.os = w.os
  tape : w'.tape = w.tape
  output : w'.output = w.output
  size : w.heap.size ≤ w'.heap.size
  block : ∀ k, k < w.heap.size → ¬ S k → w'.heap[k]? = w.heap[k]?
/-- S, and all that is new -/
def grow (S : Nat → Prop) (w : World) : Nat → Prop := fun k => S k ∨ w.heap.size ≤ k
theorem Fr.refl (S : Nat → Prop) (w : World) : Fr S w w := ⟨rfl, rfl, rfl, Nat.le_refl _, fun _ _ _ => rfl⟩
theorem Fr.trans {S : Nat → Prop} {a b c : World} (h : Fr S a b) (k : Fr (grow S a) b c) : Fr S a c :=
  ⟨k.os.trans h.os, k.tape.trans h.tape, k.output.trans h.output, Nat.le_trans h.size k.size, fun i hi hs =>
    (k.block i (Nat.lt_of_lt_of_le hi h.size) (fun g => by rcases g with g | g; exact hs g; omega)).trans (h.block i hi hs)⟩
theorem Fr.mono {S T : Nat → Prop} {a b : World} (h : Fr S a b) (hST : ∀ k, k < a.heap.size → S k → T k) : Fr T a b :=
  ⟨h.os, h.tape, h.output, h.size, fun i hi hs => h.block i hi (fun g => hs (hST i hi g))⟩
theorem Fr.of_below {S : Nat → Prop} {a b : World} (h : Below a.heap.size a b) : Fr S a b := ⟨h.os, h.tape, h.output, h.size, fun k hk _ => h.block k hk⟩
theorem Fr.kept {S : Nat → Prop} {w w' : World} (h : Fr S w w') {p : Addr} {v : Value} (hc : w.cell? p = some v) (hs : ¬ S p.block) : w'.cell? p = some v :=
  (World.cell?_of_block (w := w) (h.block p.block (World.block_lt_of_cell? w p hc) hs)).trans hc
theorem Fr.below {S : Nat → Prop} {w w' : World} (h : Fr S w w') {B : Nat} (hB : B ≤ w.heap.size) (hS : ∀ k, S k → B ≤ k) : Below B w w' :=
  ⟨h.os, h.tape, h.output, h.size, fun k hk => h.block k (by omega) (fun g => by have := hS k g; omega)⟩
theorem heap_setCell_other (w : World) (a : Addr) (v : Value) (g : Nat) (h : a.block ≠ g) : (w.setCell a v).heap[g]? = w.heap[g]? := by
  simp [World.setCell, Array.getElem?_modify, h]
theorem heap_setRow_other (w : World) (b : Nat) (cs : Array Value) (g : Nat) (h : b ≠ g) : (w.setRow b cs).heap[g]? = w.heap[g]? := by
  simp [World.setRow, Array.getElem?_modify, h]
theorem two_set0 {w : World} {R : Nat} {x y : Value} {t : TypeId} {f : Nat × Nat} (h : w.heap[R]? = some (.cells #[x, y] t f)) (v : Value) : (w.setCell ⟨R, 0, none⟩ v).heap[R]? = some (.cells #[v, y] t f) := by
  simp [World.setCell, Array.getElem?_modify, h]
theorem two_set1 {w : World} {R : Nat} {x y : Value} {t : TypeId} {f : Nat × Nat} (h : w.heap[R]? = some (.cells #[x, y] t f)) (v : Value) : (w.setCell ⟨R, 1, none⟩ v).heap[R]? = some (.cells #[x, v] t f) := by
  simp [World.setCell, Array.getElem?_modify, h]
theorem two_cell {w : World} {R : Nat} {x y : Value} {t : TypeId} (h : w.heap[R]? = some (.cells #[x, y] t (0, 0))) : w.cell? ⟨R, 0, none⟩ = some x ∧ w.cell? ⟨R, 1, none⟩ = some y ∧ w.frozen? ⟨R, 0, none⟩ = false ∧ w.frozen? ⟨R, 1, none⟩ = false := by
  simp [World.cell?, World.frozen?, h]
abbrev isR (R : Nat) : Nat → Prop := fun k => k = R
theorem fr_set {w : World} {R o : Nat} (v : Value) : Fr (isR R) w (w.setCell ⟨R, o, none⟩ v) :=
  ⟨rfl, rfl, rfl, by simp, fun k _ hk => heap_setCell_other _ _ _ _ (fun e => hk e.symm)⟩
/-- one footprint, again and again -/
theorem Fr.again {S : Nat → Prop} {a b c : World} (h : Fr S a b) (k : Fr S b c) : Fr S a c := h.trans (k.mono fun _ _ g => Or.inl g)
theorem heap_last0 (w : World) (o : Obj) : (w.alloc o).heap[w.heap.size]? = some o := by show (w.heap.push o)[w.heap.size]? = some o; simp
theorem heap_last1 (w : World) (o p : Obj) : ((w.alloc o).alloc p).heap[w.heap.size + 1]? = some p := by
  have := heap_last0 (w.alloc o) p
  rwa [show (w.alloc o).heap.size = w.heap.size + 1 by simp] at this
end Go.Proofs.YtcijajjngmmbeaaGreat
