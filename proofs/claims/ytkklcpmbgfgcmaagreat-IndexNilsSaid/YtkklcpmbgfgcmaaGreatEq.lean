/- What '==' gives on the program's structs. Conditions: none. -/
import Derived.Test.YtkklcpmbgfgcmaaGreatChecked
import Derived.Test.YtkklcpmbgfgcmaaGreatKit
set_option linter.unusedSimpArgs false
set_option linter.unusedVariables false
set_option linter.unnecessarySimpa false
namespace Go.Proofs.YtkklcpmbgfgcmaaGreat
open Go.RowKit
theorem fieldsOf_eq {P : Program} {t : TypeId} {fs : Array Field} (h : P.underlying t = some (.struct fs)) : P.fieldsOf t = fs := by
 simp [Program.fieldsOf, h]
theorem noGuardKey : Tryz.prog.eqGuardType Tryz.prog.depth 23 = false := by kernel_rfl
theorem noGuardItem : Tryz.prog.eqGuardType Tryz.prog.depth 27 = false := by kernel_rfl
theorem toList_iff {s t : ByteArray} : s.toList = t.toList ↔ s = t := by
 rw [ByteArray.toList_eq, ByteArray.toList_eq]; exact ⟨bl_inj, fun h => by rw [h]⟩
theorem key_iff (a b : Key) : a = b ↔ a.name.toList = b.name.toList ∧ a.domain.toList = b.domain.toList ∧ a.path.toList = b.path.toList := by cases a; cases b; simp [toList_iff]
theorem ck_iff (a b : Ck) : a = b ↔ a.value.toList = b.value.toList ∧ a.hostOnly = b.hostOnly ∧ a.secure = b.secure ∧ a.httpOnly = b.httpOnly ∧ a.persistent = b.persistent ∧ a.expiry = b.expiry ∧ a.creation = b.creation ∧ a.access = b.access := by cases a; cases b; simp [toList_iff]
theorem eqKey (W : World) (d : Nat) (a b : Key) : (Op.equalIn (d + 2) 23 (.agg #[.string a.name, .string a.domain, .string a.path]) (.agg #[.string b.name, .string b.domain, .string b.path])).run Tryz.prog W = .ok (decide (a = b)) W := by
 rw [run_equalIn_agg W (d + 1) 23 _ _ (by kernel_rfl) (by kernel_rfl), fieldsOf_eq Tryz.underlying23]
 simp only [Op.eqFields]
 go_simp
 simp only [key_iff]
 repeat' split
 all_goals simp_all
set_option maxHeartbeats 1000000 in
theorem eqItem (W : World) (d : Nat) (k l : Key) (a b : Ck) : (Op.equalIn (d + 3) 27 (.agg #[.string k.name, .string k.domain, .string k.path, .string a.value, .bool a.hostOnly, .bool a.secure, .bool a.httpOnly, .bool a.persistent, .int .i64 a.expiry, .int .i64 a.creation, .int .i64 a.access]) (.agg #[.string l.name, .string l.domain, .string l.path, .string b.value, .bool b.hostOnly, .bool b.secure, .bool b.httpOnly, .bool b.persistent, .int .i64 b.expiry, .int .i64 b.creation, .int .i64 b.access])).run Tryz.prog W = .ok (decide (k = l) && decide (a = b)) W := by
 rw [run_equalIn_agg W (d + 2) 27 _ _ (by kernel_rfl) (by kernel_rfl), fieldsOf_eq Tryz.underlying27]
 simp only [Op.eqFields]
 go_simp
 simp only [key_iff, ck_iff]
 repeat' split
 all_goals simp_all
end Go.Proofs.YtkklcpmbgfgcmaaGreat
