/- Actors, dots and keys as keys of maps. Conditions: none. -/
import Derived.Test.YtdlmbflhbecggaaGreatTab
import Derived.Test.YtdlmbflhbecggaaGreatDot
import Derived.Test.YtdlmbflhbecggaaGreatItem
set_option linter.unusedSimpArgs false
set_option linter.unusedVariables false
set_option linter.unnecessarySimpa false
set_option maxHeartbeats 16000000
set_option maxRecDepth 100000
namespace Go.Proofs.YtdlmbflhbecggaaGreat
open Go.RowKit
theorem zq : laidOutB Tryz.prog = true := by kernel_rfl
theorem L8 : Maps.Keyed Tryz.prog 54 := .of_law (deep_law_laid zq (m := 3) (by omega) (of_decide_eq_true (by kernel_rfl)) (by kernel_rfl) (by kernel_rfl))
theorem Px : Maps.Keyed Tryz.prog 56 := .of_law (deep_law_laid zq (m := 3) (by omega) (of_decide_eq_true (by kernel_rfl)) (by kernel_rfl) (by kernel_rfl))
theorem Pv : Maps.Keyed Tryz.prog 60 := .of_law (deep_law_laid zq (m := 3) (by omega) (of_decide_eq_true (by kernel_rfl)) (by kernel_rfl) (by kernel_rfl))
abbrev fA (a : Actor) : Value := .agg #[.int .i64 a.dev, .int .i64 a.inc]
abbrev bT (d : Dot) : Value := .agg #[.int .i64 d.a.dev, .int .i64 d.a.inc, .int .i64 d.seq]
abbrev fO (k : Key) : Value := .agg #[.string k.name, .string k.domain, .string k.path]
abbrev wf64 (n : Int) : Prop := (Lit.int .i64 n).wf = true
structure ActW (a : Actor) : Prop where
 dev : wf64 a.dev
 inc : wf64 a.inc
structure DotW (d : Dot) : Prop where
 a : ActW d.a
 seq : wf64 d.seq
structure KeyW (k : Key) : Prop where
 name : k.name.size ≤ maxLen
 domain : k.domain.size ≤ maxLen
 path : k.path.size ≤ maxLen
theorem sU : Tryz.prog.cellsOf 54 = 2 := by kernel_rfl
theorem FT : Tryz.prog.cellsOf 56 = 3 := by kernel_rfl
theorem FP : Tryz.prog.cellsOf 60 = 3 := by kernel_rfl
theorem FQ : Tryz.prog.cellsOf 3 = 1 := by kernel_rfl
theorem FO : Tryz.prog.cellsOf 9 = 1 := by kernel_rfl
theorem NP : Tryz.prog.keyType 54 = true := by kernel_rfl
theorem Qv : Tryz.prog.keyType 56 = true := by kernel_rfl
theorem Qu : Tryz.prog.keyType 60 = true := by kernel_rfl
theorem vg : ∃ m, Tryz.prog.types.size = m + 3 := ⟨Tryz.prog.types.size - 3, by have : 3 ≤ Tryz.prog.types.size := of_decide_eq_true (by kernel_rfl); omega⟩
theorem zi (m : Nat) {n : Int} (h : wf64 n) : Tryz.prog.keyLits (m + 1) 3 [.int .i64 n] = some [.int .i64 n] := by
 unfold Program.keyLits
 simp only [Tryz.underlying3]
 rw [if_pos (by simpa using h)]
theorem qh (m : Nat) {s : ByteArray} (h : s.size ≤ maxLen) : Tryz.prog.keyLits (m + 1) 9 [.string s] = some [.string s.data.toList] := by
 unfold Program.keyLits
 simp only [Tryz.underlying9]
 rw [if_pos h]
theorem zk (m : Nat) {a : Actor} (h : ActW a) : Tryz.prog.keyLits (m + 2) 54 [.int .i64 a.dev, .int .i64 a.inc] = some [.int .i64 a.dev, .int .i64 a.inc] := by
 unfold Program.keyLits
 simp only [Tryz.underlying54, sU]
 rw [if_pos ⟨rfl, by simp⟩]
 simp only [List.mapM_cons, List.mapM_nil, List.drop_zero, List.drop_succ_cons, FQ, List.take_succ_cons, List.take_zero, zi m h.dev, zi m h.inc]
 rfl
theorem L6 (m : Nat) {d : Dot} (h : DotW d) : Tryz.prog.keyLits (m + 3) 56 [.int .i64 d.a.dev, .int .i64 d.a.inc, .int .i64 d.seq] = some [.int .i64 d.a.dev, .int .i64 d.a.inc, .int .i64 d.seq] := by
 unfold Program.keyLits
 simp only [Tryz.underlying56, FT]
 rw [if_pos ⟨rfl, by simp⟩]
 simp only [List.mapM_cons, List.mapM_nil, List.drop_zero, List.drop_succ_cons, FQ, sU, List.take_succ_cons, List.take_zero, zi (m + 1) h.seq, zk m h.a]
 rfl
theorem LZ (m : Nat) {k : Key} (h : KeyW k) : ∃ l, Tryz.prog.keyLits (m + 3) 60 [.string k.name, .string k.domain, .string k.path] = some l := by
 unfold Program.keyLits
 simp only [Tryz.underlying60, FP]
 rw [if_pos ⟨rfl, by simp⟩]
 simp only [List.mapM_cons, List.mapM_nil, List.drop_zero, List.drop_succ_cons, FO, List.take_succ_cons, List.take_zero, qh (m + 1) h.name, qh (m + 1) h.domain, qh (m + 1) h.path]
 exact ⟨_, rfl⟩
theorem JY (a : Actor) (h : ActW a) : ∃ l, keyOf Tryz.prog 54 (fA a) = some l := by
 obtain ⟨m, hm⟩ := vg
 unfold keyOf
 rw [Tryz.underlying54, hm]
 have hf : Value.formed Tryz.prog 54 (fA a) = true := by simp only [fA, Value.formed, Tryz.underlying54, sU]; rfl
 simp only [NP, hf, Bool.and_self, if_true, fA, Value.cells, zk (m + 2) h]
 exact ⟨_, rfl⟩
theorem NT (d : Dot) (h : DotW d) : ∃ l, keyOf Tryz.prog 56 (bT d) = some l := by
 obtain ⟨m, hm⟩ := vg
 unfold keyOf
 rw [Tryz.underlying56, hm]
 have hf : Value.formed Tryz.prog 56 (bT d) = true := by simp only [bT, Value.formed, Tryz.underlying56, FT]; rfl
 simp only [Qv, hf, Bool.and_self, if_true, bT, Value.cells, L6 (m + 1) h]
 exact ⟨_, rfl⟩
theorem NS (k : Key) (h : KeyW k) : ∃ l, keyOf Tryz.prog 60 (fO k) = some l := by
 obtain ⟨m, hm⟩ := vg
 obtain ⟨l, hl⟩ := LZ (m + 1) h
 unfold keyOf
 rw [Tryz.underlying60, hm]
 have hf : Value.formed Tryz.prog 60 (fO k) = true := by simp only [fO, Value.formed, Tryz.underlying60, FP]; rfl
 simp only [Qu, hf, Bool.and_self, if_true, fO, Value.cells, hl]
 exact ⟨_, rfl⟩
theorem sJ : Kind Tryz.prog 54 fA ActW := ⟨L8, fun x y h => by
 obtain ⟨a, b⟩ := x; obtain ⟨c, d⟩ := y
 simpa [fA] using h, JY⟩
theorem iY : Kind Tryz.prog 56 bT DotW := ⟨Px, fun x y h => by
 obtain ⟨⟨a, b⟩, c⟩ := x; obtain ⟨⟨a2, b2⟩, c2⟩ := y
 simpa [bT, and_assoc] using h, NT⟩
theorem qj : Kind Tryz.prog 60 fO KeyW := ⟨Pv, fun x y h => by
 obtain ⟨a, b, c⟩ := x; obtain ⟨a2, b2, c2⟩ := y
 simpa [fO] using h, NS⟩
theorem Cj {n : Int} (h1 : -9223372036854775808 ≤ n) (h2 : n ≤ 9223372036854775807) : wf64 n := by
 have e1 : IntKind.i64.min = -9223372036854775808 := by decide
 have e2 : IntKind.i64.max = 9223372036854775807 := by decide
 simp only [wf64, Lit.wf, e1, e2, Bool.and_eq_true, decide_eq_true_eq]
 exact ⟨h1, h2⟩
theorem KX {a : Actor} (h : iW a = true) : ActW a := by
 simp only [iW, Bool.and_eq_true, decide_eq_true_eq] at h
 exact ⟨Cj (by omega) (by omega), Cj (by omega) (by omega)⟩
theorem gW {d : Dot} (h : bu d = true) : DotW d := by
 simp only [bu, Bool.and_eq_true, decide_eq_true_eq] at h
 exact ⟨KX h.1, Cj (by omega) (by omega)⟩
end Go.Proofs.YtdlmbflhbecggaaGreat
