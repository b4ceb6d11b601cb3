/- What '==' gives on the program's structs. Conditions: none. -/
import Derived.Test.YtpbobhfnglikmaaGreatChecked
import Derived.Test.YtpbobhfnglikmaaGreatKit
set_option linter.unusedSimpArgs false
set_option linter.unusedVariables false
set_option linter.unnecessarySimpa false
namespace Go.Proofs.YtpbobhfnglikmaaGreat
open Go.RowKit
theorem fieldsOf_eq {P : Program} {t : TypeId} {fs : Array Field} (h : P.underlying t = some (.struct fs)) : P.fieldsOf t = fs := by
 simp [Program.fieldsOf, h]
theorem noGuardActor : Tryz.prog.eqGuardType Tryz.prog.depth 33 = false := by kernel_rfl
theorem noGuardDot : Tryz.prog.eqGuardType Tryz.prog.depth 35 = false := by kernel_rfl
theorem noGuardStamp : Tryz.prog.eqGuardType Tryz.prog.depth 37 = false := by kernel_rfl
theorem noGuardKey : Tryz.prog.eqGuardType Tryz.prog.depth 39 = false := by kernel_rfl
theorem noGuardCookie : Tryz.prog.eqGuardType Tryz.prog.depth 41 = false := by kernel_rfl
theorem noGuardItem : Tryz.prog.eqGuardType Tryz.prog.depth 174 = false := by kernel_rfl
theorem actor_iff (a b : Actor) : a = b ↔ a.dev = b.dev ∧ a.inc = b.inc := by cases a; cases b; simp
theorem dot_iff (a b : Dot) : a = b ↔ a.a.dev = b.a.dev ∧ a.a.inc = b.a.inc ∧ a.seq = b.seq := by
 obtain ⟨⟨_, _⟩, _⟩ := a; obtain ⟨⟨_, _⟩, _⟩ := b; simp [and_assoc]
theorem stamp_iff (a b : Stamp) : a = b ↔ a.wall = b.wall ∧ a.count = b.count ∧ a.dev = b.dev := by cases a; cases b; simp
theorem toList_iff {s t : ByteArray} : s.toList = t.toList ↔ s = t := by
 rw [ByteArray.toList_eq, ByteArray.toList_eq]; exact ⟨bl_inj, fun h => by rw [h]⟩
theorem key_iff (a b : Key) : a = b ↔ a.name.toList = b.name.toList ∧ a.domain.toList = b.domain.toList ∧ a.path.toList = b.path.toList := by cases a; cases b; simp [toList_iff]
theorem ck_iff (a b : Ck) : a = b ↔ a.value.toList = b.value.toList ∧ a.hostOnly = b.hostOnly ∧ a.secure = b.secure ∧ a.httpOnly = b.httpOnly ∧ a.persistent = b.persistent ∧ a.expiry = b.expiry ∧ a.creation = b.creation ∧ a.access = b.access := by cases a; cases b; simp [toList_iff]
theorem eqActor (W : World) (d : Nat) (a b : Actor) : (Op.equalIn (d + 2) 33 (.agg #[.int .i64 a.dev, .int .i64 a.inc]) (.agg #[.int .i64 b.dev, .int .i64 b.inc])).run Tryz.prog W = .ok (decide (a = b)) W := by
 rw [run_equalIn_agg W (d + 1) 33 _ _ (by kernel_rfl) (by kernel_rfl), fieldsOf_eq Tryz.underlying33]
 simp only [Op.eqFields]
 go_simp
 simp only [actor_iff]
 repeat' split
 all_goals simp_all
theorem eqDot (W : World) (d : Nat) (a b : Dot) : (Op.equalIn (d + 3) 35 (.agg #[.int .i64 a.a.dev, .int .i64 a.a.inc, .int .i64 a.seq]) (.agg #[.int .i64 b.a.dev, .int .i64 b.a.inc, .int .i64 b.seq])).run Tryz.prog W = .ok (decide (a = b)) W := by
 rw [run_equalIn_agg W (d + 2) 35 _ _ (by kernel_rfl) (by kernel_rfl), fieldsOf_eq Tryz.underlying35]
 simp only [Op.eqFields]
 have h0 := eqActor W d a.a b.a
 simp only [actor_iff] at h0
 go_simp
 simp only [dot_iff]
 repeat' split
 all_goals simp_all
theorem eqStamp (W : World) (d : Nat) (a b : Stamp) : (Op.equalIn (d + 2) 37 (.agg #[.int .i64 a.wall, .int .i64 a.count, .int .i64 a.dev]) (.agg #[.int .i64 b.wall, .int .i64 b.count, .int .i64 b.dev])).run Tryz.prog W = .ok (decide (a = b)) W := by
 rw [run_equalIn_agg W (d + 1) 37 _ _ (by kernel_rfl) (by kernel_rfl), fieldsOf_eq Tryz.underlying37]
 simp only [Op.eqFields]
 go_simp
 simp only [stamp_iff]
 repeat' split
 all_goals simp_all
theorem eqKey (W : World) (d : Nat) (a b : Key) : (Op.equalIn (d + 2) 39 (.agg #[.string a.name, .string a.domain, .string a.path]) (.agg #[.string b.name, .string b.domain, .string b.path])).run Tryz.prog W = .ok (decide (a = b)) W := by
 rw [run_equalIn_agg W (d + 1) 39 _ _ (by kernel_rfl) (by kernel_rfl), fieldsOf_eq Tryz.underlying39]
 simp only [Op.eqFields]
 go_simp
 simp only [key_iff]
 repeat' split
 all_goals simp_all
set_option maxHeartbeats 1000000 in
theorem eqCk (W : World) (d : Nat) (a b : Ck) : (Op.equalIn (d + 2) 41 (.agg #[.string a.value, .bool a.hostOnly, .bool a.secure, .bool a.httpOnly, .bool a.persistent, .int .i64 a.expiry, .int .i64 a.creation, .int .i64 a.access]) (.agg #[.string b.value, .bool b.hostOnly, .bool b.secure, .bool b.httpOnly, .bool b.persistent, .int .i64 b.expiry, .int .i64 b.creation, .int .i64 b.access])).run Tryz.prog W = .ok (decide (a = b)) W := by
 rw [run_equalIn_agg W (d + 1) 41 _ _ (by kernel_rfl) (by kernel_rfl), fieldsOf_eq Tryz.underlying41]
 simp only [Op.eqFields]
 go_simp
 simp only [ck_iff]
 repeat' split
 all_goals simp_all
set_option maxHeartbeats 1000000 in
theorem eqItem (W : World) (d : Nat) (k l : Key) (a b : Ck) : (Op.equalIn (d + 3) 174 (.agg #[.string k.name, .string k.domain, .string k.path, .string a.value, .bool a.hostOnly, .bool a.secure, .bool a.httpOnly, .bool a.persistent, .int .i64 a.expiry, .int .i64 a.creation, .int .i64 a.access]) (.agg #[.string l.name, .string l.domain, .string l.path, .string b.value, .bool b.hostOnly, .bool b.secure, .bool b.httpOnly, .bool b.persistent, .int .i64 b.expiry, .int .i64 b.creation, .int .i64 b.access])).run Tryz.prog W = .ok (decide (k = l) && decide (a = b)) W := by
 rw [run_equalIn_agg W (d + 2) 174 _ _ (by kernel_rfl) (by kernel_rfl), fieldsOf_eq Tryz.underlying174]
 simp only [Op.eqFields]
 go_simp
 simp only [key_iff, ck_iff]
 repeat' split
 all_goals simp_all
end Go.Proofs.YtpbobhfnglikmaaGreat
