/- An event's bytes as the reference packs them. Conditions: an event that may be. -/
import Derived.Test.YtnpdfmpjjomhcaaRefPut
import Derived.Test.YtnpdfmpjjomhcaaInj
import Derived.Maps.AppendAt
set_option linter.unusedSimpArgs false
set_option linter.unusedVariables false
set_option linter.unnecessarySimpa false
namespace Go.Proofs.Ytnpdfmpjjomhcaa
open Go.RowKit

theorem range_grown {w w' : World} {b o : Nat} {cs : List Value} {g : Option Nat} (h : w.rangeAt b o cs) (hg : w.grownBy w' g) (hb : b < w.heap.size) (hne : some b ≠ g) : w'.rangeAt b o cs := fun j v hv => (World.cell?_of_block (hg.block b hb hne)).trans (h j v hv)
theorem bools_box (W : World) (b0 b1 b2 b3 b4 : Bool) (t : TypeId) : BoolsAt (W.alloc (Obj.cells #[.bool b0, .bool b1, .bool b2, .bool b3, .bool b4] t)) W.heap.size [b0, b1, b2, b3, b4] := by
  intro j hj
  rw [World.cell?_alloc_new]
  match j, hj with
  | 0, _ | 1, _ | 2, _ | 3, _ | 4, _ => rfl
theorem own_ne {v v2 : Value} {n b : Nat} (hat : v2.ownBlock = v.ownBlock ∨ v2.ownBlock = some n) (hne : ∀ g, v.ownBlock = some g → g ≠ b) (hb : b < n) : ∀ g, v2.ownBlock = some g → g ≠ b := by
  intro g hg
  rcases hat with h | h
  · exact hne g (h.symm.trans hg)
  · rw [h] at hg; cases hg; omega
theorem dotB_ne {d : Dot} (h : dotOk d = true) : dotB d ≠ [] := by
  unfold dotB; rw [if_pos h]
  intro e
  exact shortB_ne _ (List.append_eq_nil_iff.1 (List.append_eq_nil_iff.1 e).1).1
theorem stampB_ne {d : Stamp} (h : stampOk d = true) : stampB d ≠ [] := by
  unfold stampB; rw [if_pos h]
  intro e
  exact shortB_ne _ (List.append_eq_nil_iff.1 (List.append_eq_nil_iff.1 e).1).1
theorem textB_ne (l : Bytes) : textB l ≠ [] := fun e => shortB_ne _ (List.append_eq_nil_iff.1 e).1

/-- what has been packed so far, and the local cookie in block bc -/
structure OutInv (W0 : World) (bc : Nat) (ck : Ck) (v : Value) (L : Bytes) (W : World) : Prop where
  own : W.ownsRow W0.heap.size 5 1 v L.length (byteVals L)
  bel : Below W0.heap.size W0 W
  K : W.rangeAt bc 0 (ckCells ck)
  ne : ∀ g, v.ownBlock = some g → g ≠ bc
  lt : bc < W.heap.size
theorem OutInv.step {W0 : World} {bc : Nat} {ck : Ck} {v : Value} {L : Bytes} {w w' : World} (h : OutInv W0 bc ck v L w) (hb : Below w.heap.size w w') : OutInv W0 bc ck v L w' :=
  ⟨own_below h.own hb, below2 h.bel hb, rangeAt_kept h.K hb, h.ne, Nat.lt_of_lt_of_le h.lt hb.size⟩
theorem OutInv.app {W0 : World} {bc : Nat} {ck : Ck} {v v2 : Value} {L M : Bytes} {w w2 : World} (h : OutInv W0 bc ck v L w) (hown2 : w2.ownsRow W0.heap.size 5 1 v2 (L.length + M.length) (byteVals L ++ byteVals M))
    (hg : w.grownBy w2 v.ownBlock) (hat : v2.ownBlock = v.ownBlock ∨ v2.ownBlock = some w.heap.size) : OutInv W0 bc ck v2 (L ++ M) w2 :=
  ⟨by rw [byteVals_append, List.length_append]; exact hown2, h.bel.grown hg h.bel.size (fun k hk => (h.own.lt k hk).1), range_grown h.K hg h.lt (fun e => h.ne _ e.symm rfl), own_ne hat h.ne h.lt, Nat.lt_of_lt_of_le h.lt hg.size⟩
end Go.Proofs.Ytnpdfmpjjomhcaa
