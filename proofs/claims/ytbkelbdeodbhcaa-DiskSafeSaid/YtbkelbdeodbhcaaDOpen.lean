/- The disk's steps and keeps as arguments. Conditions: none. -/
import Derived.Test.YtbkelbdeodbhcaaTrod
import Derived.Test.YtbkelbdeodbhcaaDCrash
set_option linter.unusedSimpArgs false
set_option linter.unusedVariables false
set_option linter.unnecessarySimpa false
namespace Go.Proofs.Ytbkelbdeodbhcaa
open Go.ChangeShapes Go.WideShapes Go.ChangeAt Go.RowKit

theorem kcs_flat : ∀ l : Ks, kcs l = l.flatMap kpCells
  | [] => rfl
  | p :: l => by rw [List.flatMap_cons, ← kcs_flat l]; rfl
/-- a step, and where its bytes and keeps lie -/
structure StepIt where
  kind : Int
  n : Int
  name : ByteArray
  dst : ByteArray
  b : Bytes
  ab : Option Addr
  cb : Nat
  l : Ks
  al : Option Addr
  cl : Nat
abbrev stCells (s : StepIt) : List Value := [.int .i64 s.kind, .int .i64 s.n, .string s.name, .string s.dst, .slice s.ab s.b.length s.cb, .slice s.al s.l.length s.cl]
abbrev stVal (s : StepIt) : Value := .agg #[.int .i64 s.kind, .int .i64 s.n, .string s.name, .string s.dst, .slice s.ab s.b.length s.cb, .slice s.al s.l.length s.cl]
def KsOk (l : Ks) : Prop := ∀ p ∈ l, p.1.size ≤ maxLen ∧ (Lit.int .i64 p.2).wf = true
structure StepIn (w : World) (s : StepIt) : Prop where
  name : s.name.size ≤ maxLen
  dst : s.dst.size ≤ maxLen
  bytes : BytesIn w s.ab s.b
  keeps : CellsIn w s.al (kcs s.l)
  ks : KsOk s.l
  blen : s.b.length ≤ maxLen
  llen : s.l.length ≤ maxLen
theorem StepIn.kept {w w' : World} {s : StepIt} (h : StepIn w s) (hb : Below w.heap.size w w') : StepIn w' s := ⟨h.name, h.dst, h.bytes.kept hb, h.keeps.kept hb, h.ks, h.blen, h.llen⟩

section
variable {H : Type} {enc : TypeId × Value → H} {w : World} {base : Nat} {spare : Nat → Bool} {held : Bool}
theorem list2 {α : Type} {cs : List α} (h : cs.length = 2) : ∃ c0 c1, cs = [c0, c1] := by
  match cs, h with
  | [c0, c1], _ => exact ⟨c0, c1, rfl⟩
theorem list6 {α : Type} {cs : List α} (h : cs.length = 6) : ∃ c0 c1 c2 c3 c4 c5, cs = [c0, c1, c2, c3, c4, c5] := by
  match cs, h with
  | [c0, c1, c2, c3, c4, c5], _ => exact ⟨c0, c1, c2, c3, c4, c5, rfl⟩
set_option maxRecDepth 100000 in
theorem open_keeps {fuel : Nat} {cs : List Value} {x : DataW H × List MemPlace} (h : DataW.trod enc Try.prog w 0 spare held fuel 33 cs = some x) :
    ∃ (a : Option Addr) (l : Ks) (cap : Nat), cs = [.slice a l.length cap] ∧ CellsIn w a (kcs l) ∧ KsOk l ∧ l.length ≤ maxLen ∧ l.length ≤ cap := by
  obtain ⟨a, l, cap, h1, h2, h3, h4, h5⟩ := open_list 33 59 Try.underlying33 2 (by decide) (by kernel_rfl) kpCells (fun p => p.1.size ≤ maxLen ∧ (Lit.int .i64 p.2).wf = true) (fun m cs x hl ht => by
    obtain ⟨c0, c1, rfl⟩ := list2 hl
    obtain ⟨_, _, h0⟩ := trod_field Try.underlying59 ht 0 _ rfl 1 (by kernel_rfl) [c0] rfl
    obtain ⟨_, _, h1⟩ := trod_field Try.underlying59 ht 1 _ rfl 1 (by kernel_rfl) [c1] rfl
    obtain ⟨x0, e0, _, w0⟩ := DataW.trod_string Try.underlying9 h0
    obtain ⟨x1, e1, _, w1⟩ := DataW.trod_int Try.underlying3 h1
    simp only [List.cons.injEq, and_true] at e0 e1
    subst e0 e1
    exact ⟨(x0, x1), rfl, w0, w1⟩) h
  exact ⟨a, l, cap, h1, by rw [kcs_flat]; exact h2, h3, h4, h5⟩
set_option maxRecDepth 100000 in
theorem open_step {fuel : Nat} {cs : List Value} {x : DataW H × List MemPlace} (hl : cs.length = 6) (h : DataW.trod enc Try.prog w 0 spare held fuel 35 cs = some x) : ∃ s : StepIt, cs = stCells s ∧ StepIn w s := by
  obtain ⟨c0, c1, c2, c3, c4, c5, rfl⟩ := list6 hl
  obtain ⟨_, _, h0⟩ := trod_field Try.underlying35 h 0 _ rfl 1 (by kernel_rfl) [c0] rfl
  obtain ⟨_, _, h1⟩ := trod_field Try.underlying35 h 1 _ rfl 1 (by kernel_rfl) [c1] rfl
  obtain ⟨_, _, h2⟩ := trod_field Try.underlying35 h 2 _ rfl 1 (by kernel_rfl) [c2] rfl
  obtain ⟨_, _, h3⟩ := trod_field Try.underlying35 h 3 _ rfl 1 (by kernel_rfl) [c3] rfl
  obtain ⟨_, _, h4⟩ := trod_field Try.underlying35 h 4 _ rfl 1 (by kernel_rfl) [c4] rfl
  obtain ⟨_, _, h5⟩ := trod_field Try.underlying35 h 5 _ rfl 1 (by kernel_rfl) [c5] rfl
  obtain ⟨x0, e0, _, w0⟩ := DataW.trod_int Try.underlying3 h0
  obtain ⟨x1, e1, _, w1⟩ := DataW.trod_int Try.underlying3 h1
  obtain ⟨x2, e2, _, w2⟩ := DataW.trod_string Try.underlying9 h2
  obtain ⟨x3, e3, _, w3⟩ := DataW.trod_string Try.underlying9 h3
  obtain ⟨ab, b, cb, e4, hb, hbl, _, _⟩ := open_bytes h4
  obtain ⟨al, l, cl, e5, hk, hko, hkl, _⟩ := open_keeps h5
  simp only [List.cons.injEq, and_true] at e0
  subst e0
  simp only [List.cons.injEq, and_true] at e1
  subst e1
  simp only [List.cons.injEq, and_true] at e2
  subst e2
  simp only [List.cons.injEq, and_true] at e3
  subst e3
  simp only [List.cons.injEq, and_true] at e4
  subst e4
  simp only [List.cons.injEq, and_true] at e5
  subst e5
  exact ⟨⟨x0, x1, x2, x3, b, ab, cb, l, al, cl⟩, rfl, w2, w3, hb, hk, hko, hbl, hkl⟩
set_option maxRecDepth 100000 in
theorem arg_step {r : Reach} {b0 : Nat} {v : Value} {d : DataW H} {p : List MemPlace} (hv : Value.okWide Try.prog w r b0 35 v) (h : DataW.Trod enc Try.prog w 0 spare held 35 v d p) :
    ∃ s : StepIt, v = stVal s ∧ StepIn w s := by
  obtain ⟨⟨cs⟩, rfl, hsz⟩ := okWide_struct Try.underlying35 hv
  have hc : Try.prog.cellsOf 35 = 6 := by kernel_rfl
  rw [hc] at hsz
  obtain ⟨fuel, hf⟩ := h
  simp only [Value.cells] at hf
  obtain ⟨s, hs, hin⟩ := open_step hsz hf
  simp only at hs
  subst hs
  exact ⟨s, rfl, hin⟩
set_option maxRecDepth 100000 in
theorem arg_steps {r : Reach} {b0 : Nat} {v : Value} {d : DataW H} {p : List MemPlace} (hv : Value.okWide Try.prog w r b0 22 v) (h : DataW.Trod enc Try.prog w 0 spare held 22 v d p) :
    ∃ (a : Option Addr) (l : List StepIt) (cap : Nat), v = .slice a l.length cap ∧ CellsIn w a (l.flatMap stCells) ∧ (∀ s ∈ l, StepIn w s) ∧ l.length ≤ maxLen ∧ l.length ≤ cap := by
  obtain ⟨a, n, c, rfl⟩ := okWide_slice Try.underlying22 hv
  obtain ⟨fuel, hf⟩ := h
  obtain ⟨a', l, c', he, rest⟩ := open_list 22 35 Try.underlying22 6 (by decide) (by kernel_rfl) stCells (StepIn w) (fun m cs x hl ht => open_step hl ht) hf
  simp only [Value.cells] at he
  exact ⟨a', l, c', by simpa using he, rest⟩
set_option maxRecDepth 100000 in
theorem arg_keeps {r : Reach} {b0 : Nat} {v : Value} {d : DataW H} {p : List MemPlace} (hv : Value.okWide Try.prog w r b0 33 v) (h : DataW.Trod enc Try.prog w 0 spare held 33 v d p) :
    ∃ (a : Option Addr) (l : Ks) (cap : Nat), v = .slice a l.length cap ∧ CellsIn w a (kcs l) ∧ KsOk l ∧ l.length ≤ maxLen ∧ l.length ≤ cap := by
  obtain ⟨a, n, c, rfl⟩ := okWide_slice Try.underlying33 hv
  obtain ⟨fuel, hf⟩ := h
  obtain ⟨a', l, c', he, rest⟩ := open_keeps hf
  simp only [Value.cells] at he
  exact ⟨a', l, c', by simpa using he, rest⟩
set_option maxRecDepth 100000 in
theorem arg_str {r : Reach} {b0 : Nat} {v : Value} {d : DataW H} {p : List MemPlace} (hv : Value.okWide Try.prog w r b0 9 v) (h : DataW.Trod enc Try.prog w 0 spare held 9 v d p) : ∃ s : ByteArray, v = .string s ∧ s.size ≤ maxLen := by
  obtain ⟨s, rfl⟩ := okWide_string Try.underlying9 hv
  obtain ⟨fuel, hf⟩ := h
  obtain ⟨x0, e0, _, w0⟩ := DataW.trod_string Try.underlying9 hf
  simp only [Value.cells] at e0
  simp at e0
  subst e0
  exact ⟨s, rfl, w0⟩
end
end Go.Proofs.Ytbkelbdeodbhcaa
