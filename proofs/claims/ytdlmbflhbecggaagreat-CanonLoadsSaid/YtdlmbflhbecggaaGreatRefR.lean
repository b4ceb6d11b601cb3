/- The reference's map: Fold. Conditions: as in the text. -/
import Derived.Test.YtdlmbflhbecggaaGreatRelP
set_option linter.unusedSimpArgs false
set_option linter.unusedVariables false
set_option linter.unnecessarySimpa false
set_option maxHeartbeats 16000000
set_option maxRecDepth 100000
namespace Go.Proofs.YtdlmbflhbecggaaGreat
open Go.RowKit
/-- a block of slices is no list's -/
def Sl3 (w : World) (R : Nat) : Prop := ∃ a n c a2 n2 c2 a3 n3 c3 t f, w.heap[R]? = some (.cells #[.slice a n c, .slice a2 n2 c2, .slice a3 n3 c3] t f)
theorem Sl3.int {w : World} {R : Nat} (h : Sl3 w R) {A o : Nat} {k : IntKind} {n : Int} (hc : w.cell? ⟨A, o, none⟩ = some (.int k n)) : A ≠ R := by
 rintro rfl
 obtain ⟨a, n, c, a2, n2, c2, a3, n3, c3, t, f, hh⟩ := h
 simp only [World.cell?, hh] at hc
 match o, hc with
 | 0, hc => simp at hc
 | 1, hc => simp at hc
 | 2, hc => simp at hc
 | o + 3, hc => simp at hc
abbrev sJ (x : RMIt) : Array Value := #[.slice x.ac x.ctx.length x.cc, .slice x.aK x.K.length x.cK, .slice x.ad x.dead.length x.cd]
def RMAt (w : World) (R : Nat) (x : RMIt) : Prop := w.heap[R]? = some (.cells (sJ x) 32 (0, 0))
theorem RMAt.cells {w : World} {R : Nat} {x : RMIt} (h : RMAt w R x) : w.cell? ⟨R, 0, none⟩ = some (.slice x.ac x.ctx.length x.cc) ∧ w.cell? ⟨R, 1, none⟩ = some (.slice x.aK x.K.length x.cK) ∧ w.cell? ⟨R, 2, none⟩ = some (.slice x.ad x.dead.length x.cd) := by
 simp only [RMAt, sJ] at h
 simp [World.cell?, h]
theorem RMAt.kept {w w' : World} {R : Nat} {x : RMIt} (h : RMAt w R x) (hb : Below w.heap.size w w') : RMAt w' R x := (hb.block _ (lt_of_block h)).trans h
def rm0 : RMIt := ⟨none, [], 0, none, [], 0, none, [], 0⟩
theorem NC (w : World) : RMIn w rm0 := ⟨Or.inl rfl, ⟨Or.inl rfl, fun x hx => (nomatch hx)⟩, Or.inl rfl, Nat.le_refl _, Nat.le_refl _, Nat.le_refl _⟩
/-- a map made of events, and the reference's -/
structure MadeIn (w : World) (m : Nat) (b : MB) (s : MS) (y : RMIt) (l : List Ev) (base : Nat) : Prop where
 map : MpIn w m b s
 inv : MInv s
 ref : RMIn w y
 rel : Rel s y.rm
 good : RMGood y.rm l.length
 ctx : s.ctx.length ≤ l.length
 dead : s.dead.length ≤ 64 * l.length
 low : ∀ k, foot b s.A k → base ≤ k
 merged : ∃ n f, Merged MS.empty l s n f
end Go.Proofs.YtdlmbflhbecggaaGreat
