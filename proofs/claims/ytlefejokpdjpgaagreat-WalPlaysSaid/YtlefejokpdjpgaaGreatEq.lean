/- The disk: Copy. Conditions: as in the text. -/
import Derived.Test.YtlefejokpdjpgaaGreatDCrashB
import Derived.Test.YtlefejokpdjpgaaGreatDRefG
import Derived.Test.YtlefejokpdjpgaaGreatDiskP
import Derived.Lib.SlBytesConst
import Derived.Test.YtlefejokpdjpgaaGreatChecked
import Derived.Test.YtlefejokpdjpgaaGreatKit
set_option linter.unusedSimpArgs false
set_option linter.unusedVariables false
set_option linter.unnecessarySimpa false
set_option maxHeartbeats 16000000
set_option maxRecDepth 100000
namespace Go.Proofs.YtlefejokpdjpgaaGreat
open Go.RowKit
variable {F : Nat → Prop} {d : Nat} {S : DS} {b : Nat} {D : DataW Unit} {w w' : World}
theorem mapNoStr {w : World} {b n : Nat} {D : DataW Unit} (h : w.ownsMap Tryz.prog 9 fileR b n D) : NoStr w b := by
 obtain ⟨es, cl, hb, _⟩ := h
 intro o s e
 simp [World.cell?, hb] at e
variable {F : Nat → Prop} {d : Nat} {S : DS} {b : Nat} {D : DataW Unit} {s : ByteArray} {w w' : World}
theorem Append_any {a2 : Option Addr} {l : Bytes} {cap2 : Nat} (hs : s.size ≤ maxLen) (h : DkIn w F d S b D) (hi : DInv S) (hl : l.length ≤ 1073741824) (hin : BytesIn w a2 l) :
 Calls Tryz.prog 23 #[.pointer (some ⟨d, 0, none⟩), .string s, .slice a2 l.length cap2] w (RetDk F d b (S.append s l).1 (S.append s l).2 w) := by
 by_cases hok : nameOk s = true
 ·cases hg : getF S.f s with
  | none => exact Append_none hs h hi.srt.uniq hi.arm hok hg hl hin
  | some f => exact Append_some hs h hi.srt.uniq hi.arm hi.len hok hg (hi.ok f (getF_mem hg)).len hin
 ·have hr : S.append s l = (S, 1) := by unfold DS.append; rw [if_neg hok]
  rw [hr]
  exact Append_form hs h (Bool.eq_false_iff.2 hok)
/-- a disk all of whose blocks are new -/
theorem RetDk.own {B : Nat} {c : Int} {e : Ending} (h : RetDk (fun k => B ≤ k) d b S c w e w') (hB : B ≤ w.heap.size) : e = .returned (.int .i64 c) ∧ (∃ D', DkIn w' (fun k => B ≤ k) d S b D') ∧ Below B w w' := by
 obtain ⟨h1, ⟨D', h2⟩, h3⟩ := h
 exact ⟨h1, ⟨D', h2.mono fun k hk => by rcases hk with hk | hk; exact hk; exact Nat.le_trans hB hk⟩, h3.below hB fun k hk => hk⟩
def logS : ByteArray := ⟨#[108, 111, 103]⟩
def S1 : DS := ((⟨[], 0, false⟩ : DS).append logS [97, 98, 99]).1
theorem logS_size : logS.size ≤ maxLen := by decide
theorem fieldsOf_eq {P : Program} {t : TypeId} {fs : Array Field} (h : P.underlying t = some (.struct fs)) : P.fieldsOf t = fs := by
 simp [Program.fieldsOf, h]
theorem noGuardActor : Tryz.prog.eqGuardType Tryz.prog.depth 28 = false := by kernel_rfl
theorem noGuardDot : Tryz.prog.eqGuardType Tryz.prog.depth 30 = false := by kernel_rfl
theorem noGuardStamp : Tryz.prog.eqGuardType Tryz.prog.depth 32 = false := by kernel_rfl
theorem noGuardKey : Tryz.prog.eqGuardType Tryz.prog.depth 34 = false := by kernel_rfl
theorem noGuardCookie : Tryz.prog.eqGuardType Tryz.prog.depth 36 = false := by kernel_rfl
theorem noGuardItem : Tryz.prog.eqGuardType Tryz.prog.depth 127 = false := by kernel_rfl
theorem actor_iff (a b : Actor) : a = b ↔ a.dev = b.dev ∧ a.inc = b.inc := by cases a; cases b; simp
theorem dot_iff (a b : Dot) : a = b ↔ a.a.dev = b.a.dev ∧ a.a.inc = b.a.inc ∧ a.seq = b.seq := by
 obtain ⟨⟨_, _⟩, _⟩ := a; obtain ⟨⟨_, _⟩, _⟩ := b; simp [and_assoc]
theorem stamp_iff (a b : Stamp) : a = b ↔ a.wall = b.wall ∧ a.count = b.count ∧ a.dev = b.dev := by cases a; cases b; simp
theorem toList_iff {s t : ByteArray} : s.toList = t.toList ↔ s = t := by
 rw [ByteArray.toList_eq, ByteArray.toList_eq]; exact ⟨bl_inj, fun h => by rw [h]⟩
theorem key_iff (a b : Key) : a = b ↔ a.name.toList = b.name.toList ∧ a.domain.toList = b.domain.toList ∧ a.path.toList = b.path.toList := by cases a; cases b; simp [toList_iff]
theorem ck_iff (a b : Ck) : a = b ↔ a.value.toList = b.value.toList ∧ a.hostOnly = b.hostOnly ∧ a.secure = b.secure ∧ a.httpOnly = b.httpOnly ∧ a.persistent = b.persistent ∧ a.expiry = b.expiry ∧ a.creation = b.creation ∧ a.access = b.access := by cases a; cases b; simp [toList_iff]
theorem eqActor (W : World) (d : Nat) (a b : Actor) : (Op.equalIn (d + 2) 28 (.agg #[.int .i64 a.dev, .int .i64 a.inc]) (.agg #[.int .i64 b.dev, .int .i64 b.inc])).run Tryz.prog W = .ok (decide (a = b)) W := by
 rw [run_equalIn_agg W (d + 1) 28 _ _ (by kernel_rfl) (by kernel_rfl), fieldsOf_eq Tryz.underlying28]
 simp only [Op.eqFields]
 go_simp
 simp only [actor_iff]
 repeat' split
 all_goals simp_all
theorem eqDot (W : World) (d : Nat) (a b : Dot) : (Op.equalIn (d + 3) 30 (.agg #[.int .i64 a.a.dev, .int .i64 a.a.inc, .int .i64 a.seq]) (.agg #[.int .i64 b.a.dev, .int .i64 b.a.inc, .int .i64 b.seq])).run Tryz.prog W = .ok (decide (a = b)) W := by
 rw [run_equalIn_agg W (d + 2) 30 _ _ (by kernel_rfl) (by kernel_rfl), fieldsOf_eq Tryz.underlying30]
 simp only [Op.eqFields]
 have h0 := eqActor W d a.a b.a
 simp only [actor_iff] at h0
 go_simp
 simp only [dot_iff]
 repeat' split
 all_goals simp_all
theorem eqStamp (W : World) (d : Nat) (a b : Stamp) : (Op.equalIn (d + 2) 32 (.agg #[.int .i64 a.wall, .int .i64 a.count, .int .i64 a.dev]) (.agg #[.int .i64 b.wall, .int .i64 b.count, .int .i64 b.dev])).run Tryz.prog W = .ok (decide (a = b)) W := by
 rw [run_equalIn_agg W (d + 1) 32 _ _ (by kernel_rfl) (by kernel_rfl), fieldsOf_eq Tryz.underlying32]
 simp only [Op.eqFields]
 go_simp
 simp only [stamp_iff]
 repeat' split
 all_goals simp_all
theorem eqKey (W : World) (d : Nat) (a b : Key) : (Op.equalIn (d + 2) 34 (.agg #[.string a.name, .string a.domain, .string a.path]) (.agg #[.string b.name, .string b.domain, .string b.path])).run Tryz.prog W = .ok (decide (a = b)) W := by
 rw [run_equalIn_agg W (d + 1) 34 _ _ (by kernel_rfl) (by kernel_rfl), fieldsOf_eq Tryz.underlying34]
 simp only [Op.eqFields]
 go_simp
 simp only [key_iff]
 repeat' split
 all_goals simp_all
theorem eqCk (W : World) (d : Nat) (a b : Ck) : (Op.equalIn (d + 2) 36 (.agg #[.string a.value, .bool a.hostOnly, .bool a.secure, .bool a.httpOnly, .bool a.persistent, .int .i64 a.expiry, .int .i64 a.creation, .int .i64 a.access]) (.agg #[.string b.value, .bool b.hostOnly, .bool b.secure, .bool b.httpOnly, .bool b.persistent, .int .i64 b.expiry, .int .i64 b.creation, .int .i64 b.access])).run Tryz.prog W = .ok (decide (a = b)) W := by
 rw [run_equalIn_agg W (d + 1) 36 _ _ (by kernel_rfl) (by kernel_rfl), fieldsOf_eq Tryz.underlying36]
 simp only [Op.eqFields]
 go_simp
 simp only [ck_iff]
 repeat' split
 all_goals simp_all
theorem eqItem (W : World) (d : Nat) (k l : Key) (a b : Ck) : (Op.equalIn (d + 3) 127 (.agg #[.string k.name, .string k.domain, .string k.path, .string a.value, .bool a.hostOnly, .bool a.secure, .bool a.httpOnly, .bool a.persistent, .int .i64 a.expiry, .int .i64 a.creation, .int .i64 a.access]) (.agg #[.string l.name, .string l.domain, .string l.path, .string b.value, .bool b.hostOnly, .bool b.secure, .bool b.httpOnly, .bool b.persistent, .int .i64 b.expiry, .int .i64 b.creation, .int .i64 b.access])).run Tryz.prog W = .ok (decide (k = l) && decide (a = b)) W := by
 rw [run_equalIn_agg W (d + 2) 127 _ _ (by kernel_rfl) (by kernel_rfl), fieldsOf_eq Tryz.underlying127]
 simp only [Op.eqFields]
 go_simp
 simp only [key_iff, ck_iff]
 repeat' split
 all_goals simp_all
end Go.Proofs.YtlefejokpdjpgaaGreat
