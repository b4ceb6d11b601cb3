/- Lists of items, and texts, that came in as arguments. Conditions: none. -/
import Derived.Test.YtkklcpmbgfgcmaaGreatTrod
import Derived.Test.YtkklcpmbgfgcmaaGreatIxA
import Derived.ProofKit
import Derived.Deep.Slices
import Derived.OpenShut
set_option linter.unusedSimpArgs false
set_option linter.unusedVariables false
set_option linter.unnecessarySimpa false
namespace Go.Proofs.YtkklcpmbgfgcmaaGreat
open Go.ChangeShapes Go.WideShapes Go.ChangeAt Go.RowKit
/-- what any item that comes in has: no text too long for the machine -/
structure ItOk (y : It) : Prop where
 name : y.key.name.size ≤ maxLen
 domain : y.key.domain.size ≤ maxLen
 path : y.key.path.size ≤ maxLen
 value : y.ck.value.size ≤ maxLen
section
variable {H : Type} {enc : TypeId × Value → H} {w : World} {base : Nat} {spare : Nat → Bool} {held : Bool}
theorem list11 {α : Type} {cs : List α} (h : cs.length = 11) : ∃ c0 c1 c2 c3 c4 c5 c6 c7 c8 c9 c10, cs = [c0, c1, c2, c3, c4, c5, c6, c7, c8, c9, c10] := by
 match cs, h with
 | [c0, c1, c2, c3, c4, c5, c6, c7, c8, c9, c10], _ => exact ⟨c0, c1, c2, c3, c4, c5, c6, c7, c8, c9, c10, rfl⟩
set_option maxRecDepth 100000 in
theorem trod_it {fuel : Nat} {cs : List Value} {x : DataW H × List MemPlace} (hsz : cs.length = 11) (hf : DataW.trod enc Tryz.prog w 0 spare held fuel 27 cs = some x) : ∃ y : It, cs = itCells y ∧ ItOk y := by
 obtain ⟨c0, c1, c2, c3, c4, c5, c6, c7, c8, c9, c10, rfl⟩ := list11 hsz
 obtain ⟨_, _, hY⟩ := trod_field Tryz.underlying27 hf 0 _ rfl 3 (by kernel_rfl) [c0, c1, c2] rfl
 obtain ⟨_, _, hC⟩ := trod_field Tryz.underlying27 hf 1 _ rfl 8 (by kernel_rfl) [c3, c4, c5, c6, c7, c8, c9, c10] rfl
 obtain ⟨_, _, h0⟩ := trod_field Tryz.underlying23 hY 0 _ rfl 1 (by kernel_rfl) [c0] rfl
 obtain ⟨x0, e0, _, w0⟩ := DataW.trod_string Tryz.underlying9 h0
 obtain ⟨_, _, h1⟩ := trod_field Tryz.underlying23 hY 1 _ rfl 1 (by kernel_rfl) [c1] rfl
 obtain ⟨x1, e1, _, w1⟩ := DataW.trod_string Tryz.underlying9 h1
 obtain ⟨_, _, h2⟩ := trod_field Tryz.underlying23 hY 2 _ rfl 1 (by kernel_rfl) [c2] rfl
 obtain ⟨x2, e2, _, w2⟩ := DataW.trod_string Tryz.underlying9 h2
 obtain ⟨_, _, h3⟩ := trod_field Tryz.underlying25 hC 0 _ rfl 1 (by kernel_rfl) [c3] rfl
 obtain ⟨x3, e3, _, w3⟩ := DataW.trod_string Tryz.underlying9 h3
 obtain ⟨_, _, h4⟩ := trod_field Tryz.underlying25 hC 1 _ rfl 1 (by kernel_rfl) [c4] rfl
 obtain ⟨x4, e4, _⟩ := DataW.trod_bool Tryz.underlying4 h4
 obtain ⟨_, _, h5⟩ := trod_field Tryz.underlying25 hC 2 _ rfl 1 (by kernel_rfl) [c5] rfl
 obtain ⟨x5, e5, _⟩ := DataW.trod_bool Tryz.underlying4 h5
 obtain ⟨_, _, h6⟩ := trod_field Tryz.underlying25 hC 3 _ rfl 1 (by kernel_rfl) [c6] rfl
 obtain ⟨x6, e6, _⟩ := DataW.trod_bool Tryz.underlying4 h6
 obtain ⟨_, _, h7⟩ := trod_field Tryz.underlying25 hC 4 _ rfl 1 (by kernel_rfl) [c7] rfl
 obtain ⟨x7, e7, _⟩ := DataW.trod_bool Tryz.underlying4 h7
 obtain ⟨_, _, h8⟩ := trod_field Tryz.underlying25 hC 5 _ rfl 1 (by kernel_rfl) [c8] rfl
 obtain ⟨x8, e8, _, w8⟩ := DataW.trod_int Tryz.underlying3 h8
 obtain ⟨_, _, h9⟩ := trod_field Tryz.underlying25 hC 6 _ rfl 1 (by kernel_rfl) [c9] rfl
 obtain ⟨x9, e9, _, w9⟩ := DataW.trod_int Tryz.underlying3 h9
 obtain ⟨_, _, h10⟩ := trod_field Tryz.underlying25 hC 7 _ rfl 1 (by kernel_rfl) [c10] rfl
 obtain ⟨x10, e10, _, w10⟩ := DataW.trod_int Tryz.underlying3 h10
 simp only [List.cons.injEq, and_true] at e0
 subst e0
 simp only [List.cons.injEq, and_true] at e1
 subst e1
 simp only [List.cons.injEq, and_true] at e2
 subst e2
 simp only [List.cons.injEq, and_true] at e3
 subst e3
 simp only [List.cons.injEq, and_true] at e4
 subst e4
 simp only [List.cons.injEq, and_true] at e5
 subst e5
 simp only [List.cons.injEq, and_true] at e6
 subst e6
 simp only [List.cons.injEq, and_true] at e7
 subst e7
 simp only [List.cons.injEq, and_true] at e8
 subst e8
 simp only [List.cons.injEq, and_true] at e9
 subst e9
 simp only [List.cons.injEq, and_true] at e10
 subst e10
 exact ⟨⟨⟨x0, x1, x2⟩, ⟨x3, x4, x5, x6, x7, x8, x9, x10⟩⟩, rfl, ⟨w0, w1, w2, w3⟩⟩
end
end Go.Proofs.YtkklcpmbgfgcmaaGreat
