/- Which cookies may be: package cookie's Right and the reference's. Conditions: texts of at most 2^30 bytes. -/
import Derived.Test.YtohmadchgacafaaCookie
set_option linter.unusedSimpArgs false
set_option linter.unusedVariables false
set_option linter.unnecessarySimpa false
namespace Go.Proofs.Ytohmadchgacafaa
open Go.RowKit

def timesOk (c : Ck) : Bool := (decide (-1099511627776 ≤ c.expiry) && decide (c.expiry ≤ 1099511627776)) && ((decide (0 ≤ c.creation) && decide (c.creation ≤ 1099511627776)) && ((decide (0 ≤ c.access) && decide (c.access ≤ 1099511627776)) && (c.persistent || decide (c.expiry = 1099511627776))))
def pathOk (l : Bytes) : Bool := decide (0 < l.length) && ((l.head?.any fun x => decide (x.toNat = 47)) && decide (l.length ≤ 256))
def itemOk (k : Key) (c : Ck) : Bool := decide (0 < k.name.size) && (plainOk 256 [59, 61] (bl k.name) && (plainOk 1024 [59] (bl c.value) && (canonical (bl k.domain) && (pathOk (bl k.path) && timesOk c))))

/-- a cookie's cells -/
abbrev keyCells (k : Key) : List Value := [.string k.name, .string k.domain, .string k.path]
abbrev ckCells (c : Ck) : List Value := [.string c.value, .bool c.hostOnly, .bool c.secure, .bool c.httpOnly, .bool c.persistent, .int .i64 c.expiry, .int .i64 c.creation, .int .i64 c.access]

theorem size_pos (s : ByteArray) : decide (0 < s.size) = decide (¬ s.toList = []) := by
  by_cases h : 0 < s.size
  · simp [h, str_ne h]
  · simp only [h, str_nil h, not_true_eq_false]
theorem path_no0 {s : ByteArray} (h : s.toList = []) : pathOk (bl s) = false := by
  unfold pathOk; rw [bl_length, size_pos]; simp [h]
theorem path_47 {s : ByteArray} (h : 0 < s.size) (h2 : ¬ (s[0].toNat : Int) = 47) : pathOk (bl s) = false := by
  unfold pathOk; rw [head_bl s h]; simp only [Option.any_some]
  rw [decide_eq_false (show ¬ s[0].toNat = 47 by omega)]; simp
theorem path_256 {s : ByteArray} (h : 256 < (s.size : Int)) : pathOk (bl s) = false := by
  unfold pathOk; rw [bl_length, decide_eq_false (show ¬ s.size ≤ 256 by omega)]; simp
theorem path_yes {s : ByteArray} (h : 0 < s.size) (h2 : (s[0].toNat : Int) = 47) (h3 : (s.size : Int) ≤ 256) : pathOk (bl s) = true := by
  unfold pathOk; rw [head_bl s h, bl_length]; simp only [Option.any_some]
  rw [decide_eq_true h, decide_eq_true (show s[0].toNat = 47 by omega), decide_eq_true (show s.size ≤ 256 by omega)]; rfl
/-- in block b lie a key's cells, a cookie's -/
structure KeyAt (w : World) (b : Nat) (k : Key) : Prop where
  c0 : w.cell? ⟨b, 0, none⟩ = some (.string k.name)
  c1 : w.cell? ⟨b, 1, none⟩ = some (.string k.domain)
  c2 : w.cell? ⟨b, 2, none⟩ = some (.string k.path)
structure CkAt (w : World) (b : Nat) (c : Ck) : Prop where
  c0 : w.cell? ⟨b, 0, none⟩ = some (.string c.value)
  c1 : w.cell? ⟨b, 1, none⟩ = some (.bool c.hostOnly)
  c2 : w.cell? ⟨b, 2, none⟩ = some (.bool c.secure)
  c3 : w.cell? ⟨b, 3, none⟩ = some (.bool c.httpOnly)
  c4 : w.cell? ⟨b, 4, none⟩ = some (.bool c.persistent)
  c5 : w.cell? ⟨b, 5, none⟩ = some (.int .i64 c.expiry)
  c6 : w.cell? ⟨b, 6, none⟩ = some (.int .i64 c.creation)
  c7 : w.cell? ⟨b, 7, none⟩ = some (.int .i64 c.access)
theorem KeyAt.kept {w w' : World} {b : Nat} {k : Key} (h : KeyAt w b k) (hb : Below w.heap.size w w') : KeyAt w' b k := ⟨Ytohmadchgacafaa.kept hb h.c0, Ytohmadchgacafaa.kept hb h.c1, Ytohmadchgacafaa.kept hb h.c2⟩
theorem CkAt.kept {w w' : World} {b : Nat} {k : Ck} (h : CkAt w b k) (hb : Below w.heap.size w w') : CkAt w' b k :=
  ⟨Ytohmadchgacafaa.kept hb h.c0, Ytohmadchgacafaa.kept hb h.c1, Ytohmadchgacafaa.kept hb h.c2, Ytohmadchgacafaa.kept hb h.c3, Ytohmadchgacafaa.kept hb h.c4, Ytohmadchgacafaa.kept hb h.c5, Ytohmadchgacafaa.kept hb h.c6, Ytohmadchgacafaa.kept hb h.c7⟩

theorem bytes2 (w : World) (t : TypeId) : BytesAt (w.alloc (Obj.cells #[.int .u8 59, .int .u8 61] t)) w.heap.size 0 [59, 61] := by
  intro j hj
  match j, hj with
  | 0, _ => simp [World.cell?_alloc_new]
  | 1, _ => simp [World.cell?_alloc_new]
theorem bytes1 (w : World) (t : TypeId) : BytesAt (w.alloc (Obj.cells #[.int .u8 59] t)) w.heap.size 0 [59] := by
  intro j hj
  match j, hj with
  | 0, _ => simp [World.cell?_alloc_new]

end Go.Proofs.Ytohmadchgacafaa

/- Which cookies may be: the reference's Right. Conditions: texts of at most 2^30 bytes. -/
namespace Go.Proofs.Ytohmadchgacafaa
open Go.RowKit

theorem plainOk_name (l : Bytes) : plainOk 256 [59, 61] l = (decide (l.length ≤ 256) && (plainR l && decide (findB 61 l = none))) := by
  unfold plainOk plainR
  simp only [List.all_cons, List.all_nil, Bool.and_true]
  cases control l <;> cases decide (trim l = l) <;> simp [Bool.and_comm]
theorem plainOk_value (l : Bytes) : plainOk 1024 [59] l = (decide (l.length ≤ 1024) && plainR l) := by
  unfold plainOk plainR
  simp only [List.all_cons, List.all_nil, Bool.and_true]
  cases control l <;> cases decide (trim l = l) <;> simp [Bool.and_comm]
theorem itemOk_ref (k : Key) (c : Ck) : itemOk k c = (decide (¬ k.name.toList = []) && (decide ((k.name.size : Int) ≤ 256) && (plainR (bl k.name) && (decide (findI (bl k.name) 61 < 0) && (decide ((c.value.size : Int) ≤ 1024) && (plainR (bl c.value) && (canonical (bl k.domain) && (pathOk (bl k.path) && timesOk c)))))))) := by
  unfold itemOk
  rw [size_pos, plainOk_name, plainOk_value, bl_length, bl_length, findI_lt]
  rw [show decide ((k.name.size : Int) ≤ 256) = decide (k.name.size ≤ 256) by rw [Bool.eq_iff_iff]; simp; omega]
  rw [show decide ((c.value.size : Int) ≤ 1024) = decide (c.value.size ≤ 1024) by rw [Bool.eq_iff_iff]; simp; omega]
  simp only [Bool.and_assoc]

end Go.Proofs.Ytohmadchgacafaa
