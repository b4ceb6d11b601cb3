/- The reference's map: Fold. Conditions: as in the text. -/
import Derived.Test.YtpbobhfnglikmaaGreatRelP
set_option linter.unusedSimpArgs false
set_option linter.unusedVariables false
set_option linter.unnecessarySimpa false
namespace Go.Proofs.YtpbobhfnglikmaaGreat
open Go.RowKit
/-- a block of slices is no list's -/
def Sl3 (w : World) (R : Nat) : Prop := ∃ a n c a2 n2 c2 a3 n3 c3 t f, w.heap[R]? = some (.cells #[.slice a n c, .slice a2 n2 c2, .slice a3 n3 c3] t f)
theorem Sl3.int {w : World} {R : Nat} (h : Sl3 w R) {A o : Nat} {k : IntKind} {n : Int} (hc : w.cell? ⟨A, o, none⟩ = some (.int k n)) : A ≠ R := by
 rintro rfl
 obtain ⟨a, n, c, a2, n2, c2, a3, n3, c3, t, f, hh⟩ := h
 simp only [World.cell?, hh] at hc
 match o, hc with
 | 0, hc => simp at hc
 | 1, hc => simp at hc
 | 2, hc => simp at hc
 | o + 3, hc => simp at hc
theorem DotsIn.not3 {w w' : World} {R : Nat} {a : Option Addr} {l : List Dot} (h : DotsIn w a l) (hR : Sl3 w R) (hk : ∀ k, k ≠ R → w'.heap[k]? = w.heap[k]?) : DotsIn w' a l := by
 refine h.imp id fun ⟨A, off, h1, h2⟩ => ⟨A, off, h1, ?_⟩
 have hkc : ∀ o n, w.cell? ⟨A, o, none⟩ = some (.int .i64 n) → w'.cell? ⟨A, o, none⟩ = some (.int .i64 n) := fun o n hc => (World.cell?_of_block (hk A (hR.int hc))).trans hc
 exact ⟨fun i hi => hkc _ _ (h2.dev i hi), fun i hi => hkc _ _ (h2.inc i hi), fun i hi => hkc _ _ (h2.seq i hi)⟩
theorem EvsIn.not3 {w w' : World} {R : Nat} {a : Option Addr} {ls : List EvIt} (h : EvsIn w a ls) (hR : Sl3 w R) (hk : ∀ k, k ≠ R → w'.heap[k]? = w.heap[k]?) : EvsIn w' a ls := by
 refine ⟨h.rows.imp id fun ⟨A, off, h1, h2⟩ => ⟨A, off, h1, fun i hi j v hv => ?_⟩, fun x hx => (h.dots x hx).not3 hR hk⟩
 have hA : A ≠ R := hR.int (h2 i hi 0 _ rfl)
 exact (World.cell?_of_block (hk A hA)).trans (h2 i hi j v hv)
theorem RMIn.not3 {w w' : World} {R : Nat} {x : RMIt} (h : RMIn w x) (hR : Sl3 w R) (hk : ∀ k, k ≠ R → w'.heap[k]? = w.heap[k]?) : RMIn w' x := ⟨h.ctx.not3 hR hk, h.kept.not3 hR hk, h.dead.not3 hR hk, h.cc, h.cK, h.cd⟩
abbrev rmRow (x : RMIt) : Array Value := #[.slice x.ac x.ctx.length x.cc, .slice x.aK x.K.length x.cK, .slice x.ad x.dead.length x.cd]
def RMAt (w : World) (R : Nat) (x : RMIt) : Prop := w.heap[R]? = some (.cells (rmRow x) 31 (0, 0))
theorem RMAt.sl3 {w : World} {R : Nat} {x : RMIt} (h : RMAt w R x) : Sl3 w R := ⟨_, _, _, _, _, _, _, _, _, _, _, h⟩
theorem RMAt.cells {w : World} {R : Nat} {x : RMIt} (h : RMAt w R x) : w.cell? ⟨R, 0, none⟩ = some (.slice x.ac x.ctx.length x.cc) ∧ w.cell? ⟨R, 1, none⟩ = some (.slice x.aK x.K.length x.cK) ∧ w.cell? ⟨R, 2, none⟩ = some (.slice x.ad x.dead.length x.cd) := by
 simp only [RMAt, rmRow] at h
 simp [World.cell?, h]
theorem RMAt.kept {w w' : World} {R : Nat} {x : RMIt} (h : RMAt w R x) (hb : Below w.heap.size w w') : RMAt w' R x := (hb.block _ (lt_of_block h)).trans h
def rm0 : RMIt := ⟨none, [], 0, none, [], 0, none, [], 0⟩
theorem rm0_in (w : World) : RMIn w rm0 := ⟨Or.inl rfl, ⟨Or.inl rfl, fun x hx => (nomatch hx)⟩, Or.inl rfl, Nat.le_refl _, Nat.le_refl _, Nat.le_refl _⟩
end Go.Proofs.YtpbobhfnglikmaaGreat
/- The delta laws: made. Conditions: as in the text. -/
namespace Go.Proofs.YtpbobhfnglikmaaGreat
open Go.RowKit
/-- a map made of events, and the reference's -/
structure MadeIn (w : World) (m : Nat) (b : MB) (s : MS) (y : RMIt) (l : List Ev) (base : Nat) : Prop where
 map : MpIn w m b s
 inv : MInv s
 ref : RMIn w y
 rel : Rel s y.rm
 good : RMGood y.rm l.length
 ctx : s.ctx.length ≤ l.length
 dead : s.dead.length ≤ 64 * l.length
 low : ∀ k, foot b s.A k → base ≤ k
 merged : ∃ n f, Merged MS.empty l s n f
theorem MpIn.set3 {w : World} {m R : Nat} {b : MB} {s : MS} (h : MpIn w m b s) (hR : Sl3 w R) (hRf : ¬ foot b s.A R) (cs : Array Value) : MpIn (w.setRow R cs) m b s := by
 have hk : ∀ k, k ≠ R → (w.setRow R cs).heap[k]? = w.heap[k]? := fun k hk => heap_setRow_other _ _ _ _ (fun e => hk e.symm)
 have hm : m ≠ R := fun e => by
  obtain ⟨a, n, c, a2, n2, c2, a3, n3, c3, t, f, hh⟩ := hR
  have := h.cell
  rw [e, hh] at this
  simp at this
 have hv : b.v ≠ R := fun e => by
  obtain ⟨a, n, c, a2, n2, c2, a3, n3, c3, t, f, hh⟩ := hR
  have := h.vec.cell
  rw [e, hh] at this
  simp at this
 have hf : ∀ k, foot b s.A k → k ≠ R := fun k hk e => hRf (e ▸ hk)
 exact ⟨(hk m hm).trans h.cell, h.vec.block (hk _ hv) (hk _ (hf _ (foot_vb b _))), h.kept.block (hk _ (hf _ (foot_kb b _))), fun x hx => (h.overs x hx).not3 hR hk, h.dead.block (hk _ (hf _ (foot_db b _))), h.alive.block (hk _ (hf _ (foot_ab b _))), fun p hp => (h.inner p hp).block (hk _ (hf _ (foot_in b hp))), h.some, h.keys, h.nodup⟩
end Go.Proofs.YtpbobhfnglikmaaGreat
