/- The reference's disk: Sync, Remove. Conditions: as in the text. -/
import Derived.Test.YtlefejokpdjpgaaGreatDRefC
import Derived.Deep.WholeRow
set_option linter.unusedSimpArgs false
set_option linter.unusedVariables false
set_option linter.unnecessarySimpa false
set_option maxHeartbeats 16000000
set_option maxRecDepth 100000
namespace Go.Proofs.YtlefejokpdjpgaaGreat
open Go.RowKit
/-- a block of three cells -/
def B3 (w : World) (R : Nat) (t : TypeId) (x y z : Value) : Prop := w.heap[R]? = some (.cells #[x, y, z] t (0, 0))
theorem B3.lt {w : World} {R : Nat} {t : TypeId} {x y z : Value} (h : B3 w R t x y z) : R < w.heap.size := (Array.getElem?_eq_some_iff.1 h).1
theorem B3.below {w w' : World} {R : Nat} {t : TypeId} {x y z : Value} (h : B3 w R t x y z) (hb : Below w.heap.size w w') : B3 w' R t x y z := (hb.block _ h.lt).trans h
theorem B3.cells {w : World} {R : Nat} {t : TypeId} {x y z : Value} (h : B3 w R t x y z) : w.cell? ⟨R, 0, none⟩ = some x ∧ w.cell? ⟨R, 1, none⟩ = some y ∧ w.cell? ⟨R, 2, none⟩ = some z ∧ w.frozen? ⟨R, 0, none⟩ = false ∧ w.frozen? ⟨R, 1, none⟩ = false ∧ w.frozen? ⟨R, 2, none⟩ = false := three_cell h
theorem B3.range {w : World} {R : Nat} {t : TypeId} {x y z : Value} (h : B3 w R t x y z) : w.rangeAt R 0 [x, y, z] := fun j v hv => by
 obtain ⟨p0, p1, p2, _⟩ := h.cells
 rw [Nat.zero_add]
 match j, hv with
 | 0, hv => simp only [List.getElem?_cons_zero, Option.some.injEq] at hv; subst hv; exact p0
 | 1, hv => simp only [List.getElem?_cons_succ, List.getElem?_cons_zero, Option.some.injEq] at hv; subst hv; exact p1
 | 2, hv => simp only [List.getElem?_cons_succ, List.getElem?_cons_zero, Option.some.injEq] at hv; subst hv; exact p2
 | j + 3, hv => simp at hv
theorem B3.other {w : World} {R : Nat} {t : TypeId} {x y z : Value} (h : B3 w R t x y z) {A : Addr} (v : Value) (hA : A.block ≠ R) : B3 (w.setCell A v) R t x y z := (heap_setCell_other _ _ _ _ hA).trans h
theorem B3.row {w : World} {R : Nat} {t : TypeId} {x y z : Value} (h : B3 w R t x y z) (x' y' z' : Value) : B3 (w.setRow R #[x', y', z']) R t x' y' z' := by
 simp [B3, World.setRow, Array.getElem?_modify, show w.heap[R]? = _ from h]
def NoByteV (v : Value) : Prop := match v with | .int .u8 _ => False | _ => True
theorem B3.noByte {w : World} {R : Nat} {t : TypeId} {x y z : Value} (h : B3 w R t x y z) (hx : NoByteV x ∧ NoByteV y ∧ NoByteV z) : NoByte w R := by
 intro o c e
 simp only [World.cell?, show w.heap[R]? = _ from h] at e
 match o, e with
 | 0, e => simp at e; subst e; exact hx.1
 | 1, e => simp at e; subst e; exact hx.2.1
 | 2, e => simp at e; subst e; exact hx.2.2
 | o + 3, e => simp at e
def NoStr (w : World) (k : Nat) : Prop := ∀ o s, w.cell? ⟨k, o, none⟩ ≠ some (.string s)
def NoStrV (v : Value) : Prop := match v with | .string _ => False | _ => True
theorem B3.noStr {w : World} {R : Nat} {t : TypeId} {x y z : Value} (h : B3 w R t x y z) (hx : NoStrV x ∧ NoStrV y ∧ NoStrV z) : NoStr w R := by
 intro o c e
 simp only [World.cell?, show w.heap[R]? = _ from h] at e
 match o, e with
 | 0, e => simp at e; subst e; exact hx.1
 | 1, e => simp at e; subst e; exact hx.2.1
 | 2, e => simp at e; subst e; exact hx.2.2
 | o + 3, e => simp at e
theorem RFsIn.fr {T : Nat → Prop} {w w' : World} {a : Option Addr} {l : List RF} (h : RFsIn w a l) (hf : Fr T w w') (hT : ∀ k, T k → NoByte w k ∧ NoStr w k) : RFsIn w' a l := by
 refine ⟨?_, fun g hg => ⟨(h.ok g hg).bytes.fr hf (fun k hk => (hT k hk).1), (h.ok g hg).cap⟩⟩
 rcases h.rows with h1 | ⟨A, off, h1, h2⟩
 ·exact Or.inl h1
 ·cases l with
  | nil => exact Or.inl rfl
  | cons g r =>
    refine Or.inr ⟨A, off, h1, fun j v hv => hf.kept (h2 j v hv) (fun hA => ?_)⟩
    have h0 := h2 0 (.string g.f.name) rfl
    exact (hT A hA).2 _ _ h0
end Go.Proofs.YtlefejokpdjpgaaGreat
