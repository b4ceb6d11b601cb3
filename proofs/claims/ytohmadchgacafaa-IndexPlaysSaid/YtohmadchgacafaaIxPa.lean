/- Lists of acts on an index, keys, that came in as arguments. Conditions: none. -/
import Derived.Test.YtohmadchgacafaaIxV
import Derived.SizedLaws
set_option linter.unusedSimpArgs false
set_option linter.unusedVariables false
set_option linter.unnecessarySimpa false
namespace Go.Proofs.Ytohmadchgacafaa
open Go.ChangeShapes Go.WideShapes Go.ChangeAt Go.RowKit
structure AcIt where
 kind : Int
 x : It
def acCells (p : AcIt) : List Value := .int .i64 p.kind :: itCells p.x
section
variable {H : Type} {enc : TypeId × Value → H} {w : World} {base : Nat} {spare : Nat → Bool} {held : Bool}
theorem list12 {α : Type} {cs : List α} (h : cs.length = 12) : ∃ c0 c1 c2 c3 c4 c5 c6 c7 c8 c9 c10 c11, cs = [c0, c1, c2, c3, c4, c5, c6, c7, c8, c9, c10, c11] := by
 match cs, h with
 | [c0, c1, c2, c3, c4, c5, c6, c7, c8, c9, c10, c11], _ => exact ⟨c0, c1, c2, c3, c4, c5, c6, c7, c8, c9, c10, c11, rfl⟩
set_option maxRecDepth 100000 in
theorem trod_ac {fuel : Nat} {cs : List Value} {x : DataW H × List MemPlace} (hsz : cs.length = 12) (hf : DataW.trod enc Try.prog w 0 spare held fuel 40 cs = some x) : ∃ p : AcIt, cs = acCells p ∧ ItOk p.x := by
 obtain ⟨c0, c1, c2, c3, c4, c5, c6, c7, c8, c9, c10, c11, rfl⟩ := list12 hsz
 obtain ⟨_, _, hK⟩ := trod_field Try.underlying40 hf 0 _ rfl 1 (by kernel_rfl) [c0] rfl
 obtain ⟨_, _, hX⟩ := trod_field Try.underlying40 hf 1 _ rfl 11 (by kernel_rfl) [c1, c2, c3, c4, c5, c6, c7, c8, c9, c10, c11] rfl
 obtain ⟨k, e0, _, _⟩ := DataW.trod_int Try.underlying3 hK
 obtain ⟨y, hy, hok⟩ := trod_it rfl hX
 simp only [List.cons.injEq, and_true] at e0
 subst e0
 exact ⟨⟨k, y⟩, by rw [hy]; rfl, hok⟩
set_option maxRecDepth 100000 in
theorem arg_acts {r : Reach} {b0 : Nat} {v : Value} {d : DataW H} {p : List MemPlace} (hv : Value.okWide Try.prog w r b0 32 v) (h : DataW.Trod enc Try.prog w 0 spare held 32 v d p) :
 ∃ (a : Option Addr) (l : List AcIt) (cap : Nat), v = .slice a l.length cap ∧ CellsIn w a (l.flatMap acCells) ∧ l.length ≤ maxLen ∧ ∀ y ∈ l, ItOk y.x := by
 obtain ⟨a, n, c, rfl⟩ := okWide_slice Try.underlying32 hv
 obtain ⟨fuel, hf⟩ := h
 obtain ⟨a', l, c', he, h1, h2, h3, _⟩ := open_list 32 40 Try.underlying32 12 (by decide) (by kernel_rfl) acCells (fun p => ItOk p.x) (fun m cs x hl ht => trod_ac hl ht) hf
 simp only [Value.cells] at he
 exact ⟨a', l, c', by simpa using he, h1, h3, h2⟩
/-- one field of a struct, read by itself: what it weighs the struct weighs -/
theorem trod_field_w {P : Program} {t : TypeId} {fs : Array Field} {fuel : Nat} {cs : List Value} {x : DataW H × List MemPlace} (ht : P.underlying t = some (.struct fs)) (h : DataW.trod enc P w base spare held fuel t cs = some x)
 (i : Nat) (f : Field) (hf : fs[i]? = some f) (n : Nat) (hn : P.cellsOf f.type = n) (sub : List Value) (hsub : (cs.drop f.offset).take n = sub) :
 ∃ y m, DataW.trod enc P w base spare held m f.type sub = some y ∧ ∀ z ∈ y.1.weights P f.type, z ∈ x.1.weights P t := by
 obtain ⟨xs, n', _, hx, _, hlen, hfs⟩ := DataW.trod_struct ht h
 have h1 := hfs i f hf
 have hi : i < xs.length := by
  rw [hlen]
  exact (Array.getElem?_eq_some_iff.1 hf).1
 rw [List.getElem?_eq_getElem hi, hn, hsub] at h1
 refine ⟨_, _, h1, fun z hz => ?_⟩
 rw [hx]
 have e : (DataW.agg (xs.map (·.1)) : DataW H).weights P t = DataW.weightsEach P (fs.toList.map (·.type)) (xs.map (·.1)) := by simp [DataW.weights, ht]
 rw [e]
 exact DataW.weights_mem_each (j := i) (by simp [hf]) (by simp [hi]) z hz
theorem str_weight {P : Program} {t : TypeId} (s : ByteArray) : s.size ∈ (DataW.lit (.string s.data.toList) : DataW H).weights P t := by
 have e : (DataW.lit (.string s.data.toList) : DataW H).weights P t = [s.data.toList.length] := by simp [DataW.weights]
 rw [e, List.mem_singleton]
 exact Array.length_toList.symm
set_option maxRecDepth 100000 in
theorem arg_keyw {r : Reach} {b0 : Nat} {v : Value} {d : DataW H} {p : List MemPlace} (hv : Value.okWide Try.prog w r b0 34 v) (h : DataW.Trod enc Try.prog w 0 spare held 34 v d p) :
 ∃ k : Key, v = keyV k ∧ k.name.size ∈ d.weights Try.prog 34 ∧ k.domain.size ∈ d.weights Try.prog 34 ∧ k.path.size ∈ d.weights Try.prog 34 := by
 obtain ⟨⟨cs⟩, rfl, hsz⟩ := okWide_struct Try.underlying34 hv
 have hc : Try.prog.cellsOf 34 = 3 := by kernel_rfl
 rw [hc] at hsz
 obtain ⟨fuel, hf⟩ := h
 simp only [Value.cells] at hf
 match cs, hsz with
 | [c0, c1, c2], _ =>
   obtain ⟨y0, _, h0, g0⟩ := trod_field_w Try.underlying34 hf 0 _ rfl 1 (by kernel_rfl) [c0] rfl
   obtain ⟨y1, _, h1, g1⟩ := trod_field_w Try.underlying34 hf 1 _ rfl 1 (by kernel_rfl) [c1] rfl
   obtain ⟨y2, _, h2, g2⟩ := trod_field_w Try.underlying34 hf 2 _ rfl 1 (by kernel_rfl) [c2] rfl
   obtain ⟨x0, e0, f0, w0⟩ := DataW.trod_string Try.underlying9 h0
   obtain ⟨x1, e1, f1, w1⟩ := DataW.trod_string Try.underlying9 h1
   obtain ⟨x2, e2, f2, w2⟩ := DataW.trod_string Try.underlying9 h2
   simp only [List.cons.injEq, and_true] at e0 e1 e2
   subst e0 e1 e2 f0 f1 f2
   exact ⟨⟨x0, x1, x2⟩, rfl, g0 _ (str_weight _), g1 _ (str_weight _), g2 _ (str_weight _)⟩
end
abbrev AcsIn (w : World) (a : Option Addr) (l : List AcIt) : Prop := CellsIn w a (l.flatMap acCells)
theorem acs_get : ∀ (l : List AcIt) (i : Nat) (h : i < l.length) (j : Nat), j < 12 → (l.flatMap acCells)[i * 12 + j]? = (acCells l[i])[j]?
 | y :: l, 0, _, j, hj => by
   rw [List.flatMap_cons, Nat.zero_mul, Nat.zero_add, List.getElem?_append_left (by show j < (acCells y).length; exact hj)]
   rfl
 | y :: l, i + 1, h, j, hj => by
   have hl : (acCells y).length = 12 := rfl
   rw [List.flatMap_cons, List.getElem?_append_right (by omega), show (i + 1) * 12 + j - (acCells y).length = i * 12 + j by omega]
   exact acs_get l i (by simpa using h) j hj
theorem AcsIn.at {w : World} {a : Option Addr} {l : List AcIt} {i : Nat} (h : AcsIn w a l) (hi : i < l.length) :
 ∃ A off, a = some ⟨A, off, none⟩ ∧ w.cell? ⟨A, off + i * 12, none⟩ = some (.int .i64 l[i].kind) ∧ w.rangeAt A (off + i * 12 + 1) (itCells l[i].x) := by
 rcases h with h | ⟨A, off, rfl, hr⟩
 ·cases l with
  | nil => simp at hi
  | cons y l => simp [acCells] at h
 ·refine ⟨A, off, rfl, ?_, fun j v hv => ?_⟩
  ·have := hr (i * 12 + 0) (.int .i64 l[i].kind) (by rw [acs_get l i hi 0 (by omega)]; rfl)
   rwa [Nat.add_zero] at this
  ·have hj : j < 11 := by
        have := (List.getElem?_eq_some_iff.1 hv).1
        have hl : (itCells l[i].x).length = 11 := rfl
        omega
   have := hr (i * 12 + (j + 1)) v (by rw [acs_get l i hi (j + 1) (by omega)]; exact hv)
   rwa [show off + (i * 12 + (j + 1)) = off + i * 12 + 1 + j by omega] at this
end Go.Proofs.Ytohmadchgacafaa
