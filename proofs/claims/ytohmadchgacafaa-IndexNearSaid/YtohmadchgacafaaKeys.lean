/- Actors, dots and keys as keys of maps. Conditions: none. -/
import Derived.Test.YtohmadchgacafaaTab
import Derived.Test.YtohmadchgacafaaDot
import Derived.Test.YtohmadchgacafaaEvent
set_option linter.unusedSimpArgs false
set_option linter.unusedVariables false
set_option linter.unnecessarySimpa false
namespace Go.Proofs.Ytohmadchgacafaa
open Go.RowKit

theorem laidTry : laidOutB Try.prog = true := by kernel_rfl
theorem lawKey : Maps.Keyed Try.prog 34 := .of_law (deep_law_laid laidTry (m := 3) (by omega) (of_decide_eq_true (by kernel_rfl)) (by kernel_rfl) (by kernel_rfl))

abbrev actVal (a : Actor) : Value := .agg #[.int .i64 a.dev, .int .i64 a.inc]
abbrev dotVal (d : Dot) : Value := .agg #[.int .i64 d.a.dev, .int .i64 d.a.inc, .int .i64 d.seq]
abbrev keyVal (k : Key) : Value := .agg #[.string k.name, .string k.domain, .string k.path]
abbrev wf64 (n : Int) : Prop := (Lit.int .i64 n).wf = true
structure ActW (a : Actor) : Prop where
  dev : wf64 a.dev
  inc : wf64 a.inc
structure DotW (d : Dot) : Prop where
  a : ActW d.a
  seq : wf64 d.seq
structure KeyW (k : Key) : Prop where
  name : k.name.size ≤ maxLen
  domain : k.domain.size ≤ maxLen
  path : k.path.size ≤ maxLen

theorem cellsKey : Try.prog.cellsOf 34 = 3 := by kernel_rfl
theorem cellsInt : Try.prog.cellsOf 3 = 1 := by kernel_rfl
theorem cellsString : Try.prog.cellsOf 9 = 1 := by kernel_rfl
theorem ktKey : Try.prog.keyType 34 = true := by kernel_rfl
theorem manyTypes : ∃ m, Try.prog.types.size = m + 3 := ⟨Try.prog.types.size - 3, by have : 3 ≤ Try.prog.types.size := of_decide_eq_true (by kernel_rfl); omega⟩

theorem lits_int (m : Nat) {n : Int} (h : wf64 n) : Try.prog.keyLits (m + 1) 3 [.int .i64 n] = some [.int .i64 n] := by
  unfold Program.keyLits
  simp only [Try.underlying3]
  rw [if_pos (by simpa using h)]
theorem lits_string (m : Nat) {s : ByteArray} (h : s.size ≤ maxLen) : Try.prog.keyLits (m + 1) 9 [.string s] = some [.string s.data.toList] := by
  unfold Program.keyLits
  simp only [Try.underlying9]
  rw [if_pos h]
theorem lits_key (m : Nat) {k : Key} (h : KeyW k) : ∃ l, Try.prog.keyLits (m + 3) 34 [.string k.name, .string k.domain, .string k.path] = some l := by
  unfold Program.keyLits
  simp only [Try.underlying34, cellsKey]
  rw [if_pos ⟨rfl, by simp⟩]
  simp only [List.mapM_cons, List.mapM_nil, List.drop_zero, List.drop_succ_cons, cellsString, List.take_succ_cons, List.take_zero, lits_string (m + 1) h.name, lits_string (m + 1) h.domain, lits_string (m + 1) h.path]
  exact ⟨_, rfl⟩
theorem key_key (k : Key) (h : KeyW k) : ∃ l, keyOf Try.prog 34 (keyVal k) = some l := by
  obtain ⟨m, hm⟩ := manyTypes
  obtain ⟨l, hl⟩ := lits_key (m + 1) h
  unfold keyOf
  rw [Try.underlying34, hm]
  have hf : Value.formed Try.prog 34 (keyVal k) = true := by simp only [keyVal, Value.formed, Try.underlying34, cellsKey]; rfl
  simp only [ktKey, hf, Bool.and_self, if_true, keyVal, Value.cells, hl]
  exact ⟨_, rfl⟩

theorem kKey : Kind Try.prog 34 keyVal KeyW := ⟨lawKey, fun x y h => by
  obtain ⟨a, b, c⟩ := x; obtain ⟨a2, b2, c2⟩ := y
  simpa [keyVal] using h, key_key⟩
theorem wf64_of {n : Int} (h1 : -9223372036854775808 ≤ n) (h2 : n ≤ 9223372036854775807) : wf64 n := by
  have e1 : IntKind.i64.min = -9223372036854775808 := by decide
  have e2 : IntKind.i64.max = 9223372036854775807 := by decide
  simp only [wf64, Lit.wf, e1, e2, Bool.and_eq_true, decide_eq_true_eq]
  exact ⟨h1, h2⟩
theorem wf64_iff {n : Int} (h : wf64 n) : -9223372036854775808 ≤ n ∧ n ≤ 9223372036854775807 := by
  have e1 : IntKind.i64.min = -9223372036854775808 := by decide
  have e2 : IntKind.i64.max = 9223372036854775807 := by decide
  simpa only [wf64, Lit.wf, e1, e2, Bool.and_eq_true, decide_eq_true_eq] using h
theorem actorOk_W {a : Actor} (h : actorOk a = true) : ActW a := by
  simp only [actorOk, Bool.and_eq_true, decide_eq_true_eq] at h
  exact ⟨wf64_of (by omega) (by omega), wf64_of (by omega) (by omega)⟩
theorem dotOk_W {d : Dot} (h : dotOk d = true) : DotW d := by
  simp only [dotOk, Bool.and_eq_true, decide_eq_true_eq] at h
  exact ⟨actorOk_W h.1, wf64_of (by omega) (by omega)⟩
end Go.Proofs.Ytohmadchgacafaa
