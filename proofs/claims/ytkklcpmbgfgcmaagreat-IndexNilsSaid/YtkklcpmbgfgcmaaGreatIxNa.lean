/- An item that came in as an argument. Conditions: none. -/
import Derived.Test.YtkklcpmbgfgcmaaGreatIxV
set_option linter.unusedSimpArgs false
set_option linter.unusedVariables false
set_option linter.unnecessarySimpa false
namespace Go.Proofs.YtkklcpmbgfgcmaaGreat
open Go.ChangeShapes Go.WideShapes Go.ChangeAt Go.RowKit
section
variable {H : Type} {enc : TypeId × Value → H} {w : World} {base : Nat} {spare : Nat → Bool} {held : Bool}
set_option maxRecDepth 100000 in
theorem arg_it {r : Reach} {b0 : Nat} {v : Value} {d : DataW H} {p : List MemPlace} (hv : Value.okWide Tryz.prog w r b0 27 v) (h : DataW.Trod enc Tryz.prog w 0 spare held 27 v d p) :
 ∃ y : It, v = itVal y ∧ ItOk y := by
 obtain ⟨⟨cs⟩, rfl, hsz⟩ := okWide_struct Tryz.underlying27 hv
 have hc : Tryz.prog.cellsOf 27 = 11 := by kernel_rfl
 rw [hc] at hsz
 obtain ⟨fuel, hf⟩ := h
 simp only [Value.cells] at hf
 obtain ⟨y, hy, hok⟩ := trod_it hsz hf
 simp only at hy
 subst hy
 exact ⟨y, rfl, hok⟩
set_option maxRecDepth 100000 in
theorem arg_rq {r : Reach} {b0 : Nat} {v : Value} {d : DataW H} {p : List MemPlace} (hv : Value.okWide Tryz.prog w r b0 29 v) (h : DataW.Trod enc Tryz.prog w 0 spare held 29 v d p) :
 ∃ (x y : ByteArray) (s t : Bool), v = .agg #[.string x, .string y, .bool s, .bool t] ∧ x.size ≤ maxLen ∧ y.size ≤ maxLen := by
 obtain ⟨⟨cs⟩, rfl, hsz⟩ := okWide_struct Tryz.underlying29 hv
 have hc : Tryz.prog.cellsOf 29 = 4 := by kernel_rfl
 rw [hc] at hsz
 obtain ⟨fuel, hf⟩ := h
 simp only [Value.cells] at hf
 match cs, hsz with
 | [c0, c1, c2, c3], _ =>
   obtain ⟨_, _, h0⟩ := trod_field Tryz.underlying29 hf 0 _ rfl 1 (by kernel_rfl) [c0] rfl
   obtain ⟨_, _, h1⟩ := trod_field Tryz.underlying29 hf 1 _ rfl 1 (by kernel_rfl) [c1] rfl
   obtain ⟨_, _, h2⟩ := trod_field Tryz.underlying29 hf 2 _ rfl 1 (by kernel_rfl) [c2] rfl
   obtain ⟨_, _, h3⟩ := trod_field Tryz.underlying29 hf 3 _ rfl 1 (by kernel_rfl) [c3] rfl
   obtain ⟨x0, e0, _, w0⟩ := DataW.trod_string Tryz.underlying9 h0
   obtain ⟨x1, e1, _, w1⟩ := DataW.trod_string Tryz.underlying9 h1
   obtain ⟨x2, e2, _⟩ := DataW.trod_bool Tryz.underlying4 h2
   obtain ⟨x3, e3, _⟩ := DataW.trod_bool Tryz.underlying4 h3
   simp only [List.cons.injEq, and_true] at e0 e1 e2 e3
   subst e0 e1 e2 e3
   exact ⟨x0, x1, x2, x3, rfl, w0, w1⟩
end
end Go.Proofs.YtkklcpmbgfgcmaaGreat
