/- Actors, dots and keys as keys of maps. Conditions: none. -/
import Derived.Test.YtpbobhfnglikmaaGreatTab
import Derived.Test.YtpbobhfnglikmaaGreatDot
import Derived.Test.YtpbobhfnglikmaaGreatItem
set_option linter.unusedSimpArgs false
set_option linter.unusedVariables false
set_option linter.unnecessarySimpa false
set_option maxHeartbeats 16000000
set_option maxRecDepth 100000
namespace Go.Proofs.YtpbobhfnglikmaaGreat
open Go.RowKit
theorem laidTryz : laidOutB Tryz.prog = true := by kernel_rfl
theorem lawActor : Maps.Keyed Tryz.prog 33 := .of_law (deep_law_laid laidTryz (m := 3) (by omega) (of_decide_eq_true (by kernel_rfl)) (by kernel_rfl) (by kernel_rfl))
theorem lawDot : Maps.Keyed Tryz.prog 35 := .of_law (deep_law_laid laidTryz (m := 3) (by omega) (of_decide_eq_true (by kernel_rfl)) (by kernel_rfl) (by kernel_rfl))
theorem lawKey : Maps.Keyed Tryz.prog 39 := .of_law (deep_law_laid laidTryz (m := 3) (by omega) (of_decide_eq_true (by kernel_rfl)) (by kernel_rfl) (by kernel_rfl))
abbrev actVal (a : Actor) : Value := .agg #[.int .i64 a.dev, .int .i64 a.inc]
abbrev dotVal (d : Dot) : Value := .agg #[.int .i64 d.a.dev, .int .i64 d.a.inc, .int .i64 d.seq]
abbrev keyVal (k : Key) : Value := .agg #[.string k.name, .string k.domain, .string k.path]
abbrev wf64 (n : Int) : Prop := (Lit.int .i64 n).wf = true
structure ActW (a : Actor) : Prop where
 dev : wf64 a.dev
 inc : wf64 a.inc
structure DotW (d : Dot) : Prop where
 a : ActW d.a
 seq : wf64 d.seq
structure KeyW (k : Key) : Prop where
 name : k.name.size ≤ maxLen
 domain : k.domain.size ≤ maxLen
 path : k.path.size ≤ maxLen
theorem cellsActor : Tryz.prog.cellsOf 33 = 2 := by kernel_rfl
theorem cellsDot : Tryz.prog.cellsOf 35 = 3 := by kernel_rfl
theorem cellsKey : Tryz.prog.cellsOf 39 = 3 := by kernel_rfl
theorem cellsInt : Tryz.prog.cellsOf 3 = 1 := by kernel_rfl
theorem cellsString : Tryz.prog.cellsOf 9 = 1 := by kernel_rfl
theorem ktActor : Tryz.prog.keyType 33 = true := by kernel_rfl
theorem ktDot : Tryz.prog.keyType 35 = true := by kernel_rfl
theorem ktKey : Tryz.prog.keyType 39 = true := by kernel_rfl
theorem manyTypes : ∃ m, Tryz.prog.types.size = m + 3 := ⟨Tryz.prog.types.size - 3, by have : 3 ≤ Tryz.prog.types.size := of_decide_eq_true (by kernel_rfl); omega⟩
theorem lits_int (m : Nat) {n : Int} (h : wf64 n) : Tryz.prog.keyLits (m + 1) 3 [.int .i64 n] = some [.int .i64 n] := by
 unfold Program.keyLits
 simp only [Tryz.underlying3]
 rw [if_pos (by simpa using h)]
theorem lits_string (m : Nat) {s : ByteArray} (h : s.size ≤ maxLen) : Tryz.prog.keyLits (m + 1) 9 [.string s] = some [.string s.data.toList] := by
 unfold Program.keyLits
 simp only [Tryz.underlying9]
 rw [if_pos h]
theorem lits_actor (m : Nat) {a : Actor} (h : ActW a) : Tryz.prog.keyLits (m + 2) 33 [.int .i64 a.dev, .int .i64 a.inc] = some [.int .i64 a.dev, .int .i64 a.inc] := by
 unfold Program.keyLits
 simp only [Tryz.underlying33, cellsActor]
 rw [if_pos ⟨rfl, by simp⟩]
 simp only [List.mapM_cons, List.mapM_nil, List.drop_zero, List.drop_succ_cons, cellsInt, List.take_succ_cons, List.take_zero, lits_int m h.dev, lits_int m h.inc]
 rfl
theorem lits_dot (m : Nat) {d : Dot} (h : DotW d) : Tryz.prog.keyLits (m + 3) 35 [.int .i64 d.a.dev, .int .i64 d.a.inc, .int .i64 d.seq] = some [.int .i64 d.a.dev, .int .i64 d.a.inc, .int .i64 d.seq] := by
 unfold Program.keyLits
 simp only [Tryz.underlying35, cellsDot]
 rw [if_pos ⟨rfl, by simp⟩]
 simp only [List.mapM_cons, List.mapM_nil, List.drop_zero, List.drop_succ_cons, cellsInt, cellsActor, List.take_succ_cons, List.take_zero, lits_int (m + 1) h.seq, lits_actor m h.a]
 rfl
theorem lits_key (m : Nat) {k : Key} (h : KeyW k) : ∃ l, Tryz.prog.keyLits (m + 3) 39 [.string k.name, .string k.domain, .string k.path] = some l := by
 unfold Program.keyLits
 simp only [Tryz.underlying39, cellsKey]
 rw [if_pos ⟨rfl, by simp⟩]
 simp only [List.mapM_cons, List.mapM_nil, List.drop_zero, List.drop_succ_cons, cellsString, List.take_succ_cons, List.take_zero, lits_string (m + 1) h.name, lits_string (m + 1) h.domain, lits_string (m + 1) h.path]
 exact ⟨_, rfl⟩
theorem key_actor (a : Actor) (h : ActW a) : ∃ l, keyOf Tryz.prog 33 (actVal a) = some l := by
 obtain ⟨m, hm⟩ := manyTypes
 unfold keyOf
 rw [Tryz.underlying33, hm]
 have hf : Value.formed Tryz.prog 33 (actVal a) = true := by simp only [actVal, Value.formed, Tryz.underlying33, cellsActor]; rfl
 simp only [ktActor, hf, Bool.and_self, if_true, actVal, Value.cells, lits_actor (m + 2) h]
 exact ⟨_, rfl⟩
theorem key_dot (d : Dot) (h : DotW d) : ∃ l, keyOf Tryz.prog 35 (dotVal d) = some l := by
 obtain ⟨m, hm⟩ := manyTypes
 unfold keyOf
 rw [Tryz.underlying35, hm]
 have hf : Value.formed Tryz.prog 35 (dotVal d) = true := by simp only [dotVal, Value.formed, Tryz.underlying35, cellsDot]; rfl
 simp only [ktDot, hf, Bool.and_self, if_true, dotVal, Value.cells, lits_dot (m + 1) h]
 exact ⟨_, rfl⟩
theorem key_key (k : Key) (h : KeyW k) : ∃ l, keyOf Tryz.prog 39 (keyVal k) = some l := by
 obtain ⟨m, hm⟩ := manyTypes
 obtain ⟨l, hl⟩ := lits_key (m + 1) h
 unfold keyOf
 rw [Tryz.underlying39, hm]
 have hf : Value.formed Tryz.prog 39 (keyVal k) = true := by simp only [keyVal, Value.formed, Tryz.underlying39, cellsKey]; rfl
 simp only [ktKey, hf, Bool.and_self, if_true, keyVal, Value.cells, hl]
 exact ⟨_, rfl⟩
theorem kActor : Kind Tryz.prog 33 actVal ActW := ⟨lawActor, fun x y h => by
 obtain ⟨a, b⟩ := x; obtain ⟨c, d⟩ := y
 simpa [actVal] using h, key_actor⟩
theorem kDot : Kind Tryz.prog 35 dotVal DotW := ⟨lawDot, fun x y h => by
 obtain ⟨⟨a, b⟩, c⟩ := x; obtain ⟨⟨a2, b2⟩, c2⟩ := y
 simpa [dotVal, and_assoc] using h, key_dot⟩
theorem kKey : Kind Tryz.prog 39 keyVal KeyW := ⟨lawKey, fun x y h => by
 obtain ⟨a, b, c⟩ := x; obtain ⟨a2, b2, c2⟩ := y
 simpa [keyVal] using h, key_key⟩
theorem wf64_of {n : Int} (h1 : -9223372036854775808 ≤ n) (h2 : n ≤ 9223372036854775807) : wf64 n := by
 have e1 : IntKind.i64.min = -9223372036854775808 := by decide
 have e2 : IntKind.i64.max = 9223372036854775807 := by decide
 simp only [wf64, Lit.wf, e1, e2, Bool.and_eq_true, decide_eq_true_eq]
 exact ⟨h1, h2⟩
theorem actorOk_W {a : Actor} (h : actorOk a = true) : ActW a := by
 simp only [actorOk, Bool.and_eq_true, decide_eq_true_eq] at h
 exact ⟨wf64_of (by omega) (by omega), wf64_of (by omega) (by omega)⟩
theorem dotOk_W {d : Dot} (h : dotOk d = true) : DotW d := by
 simp only [dotOk, Bool.and_eq_true, decide_eq_true_eq] at h
 exact ⟨actorOk_W h.1, wf64_of (by omega) (by omega)⟩
end Go.Proofs.YtpbobhfnglikmaaGreat
