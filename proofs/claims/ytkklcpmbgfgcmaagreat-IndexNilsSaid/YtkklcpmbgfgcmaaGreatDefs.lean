/- Plain functions on bytes, numbers and records: what the program's functions and the references compute. Conditions: none. -/
import Derived.Lib.Hide
set_option linter.unusedSimpArgs false
set_option linter.unusedVariables false
set_option linter.unnecessarySimpa false
namespace Go.Proofs.YtkklcpmbgfgcmaaGreat
abbrev Bytes := List UInt8
/-! ### ascii -/
def findB (c : UInt8) : Bytes → Option Nat
 | [] => none
 | x :: r => if x.toNat = c.toNat then some 0 else (findB c r).map (· + 1)
def findI (l : Bytes) (c : UInt8) : Int := match findB c l with | none => -1 | some k => k
def findFrom (k : Nat) (l : Bytes) (c : UInt8) : Int := match findB c l with | none => -1 | some j => k + j
theorem findFrom_nil {k : Nat} {c : UInt8} : findFrom k [] c = -1 := by simp [findFrom, findB]
theorem findFrom_cons_eq {k : Nat} {x c : UInt8} {l : Bytes} (h : (x.toNat : Int) = c.toNat) : findFrom k (x :: l) c = k := by
 simp [findFrom, findB, Int.natCast_inj.1 h]
theorem findFrom_cons_ne {k : Nat} {x c : UInt8} {l : Bytes} (h : ¬ (x.toNat : Int) = c.toNat) : findFrom k (x :: l) c = findFrom (k + 1) l c := by
 have h' : ¬ x.toNat = c.toNat := fun e => h (by rw [e])
 simp only [findFrom, findB, if_neg h']
 cases findB c l <;> simp
 omega
theorem findFrom_zero (l : Bytes) (c : UInt8) : findFrom 0 l c = findI l c := by simp [findFrom, findI]
theorem findB_lt {c : UInt8} : ∀ {l : Bytes} {k : Nat}, findB c l = some k → k < l.length
 | [], _, h => by simp [findB] at h
 | x :: r, k, h => by
   unfold findB at h
   split at h
   ·simp at h; subst h; simp
   ·simp only [Option.map_eq_some_iff] at h
    obtain ⟨j, hj, rfl⟩ := h
    have := findB_lt hj
    simp; omega
theorem findI_nonneg {l : Bytes} {c : UInt8} (h : 0 ≤ findI l c) : ∃ k : Nat, findB c l = some k ∧ findI l c = k ∧ k < l.length := by
 unfold findI at h ⊢
 cases hb : findB c l with
 | none => simp [hb] at h
 | some k => exact ⟨k, rfl, rfl, findB_lt hb⟩
theorem findI_neg {l : Bytes} {c : UInt8} (h : findI l c < 0) : findB c l = none := by
 unfold findI at h
 cases hb : findB c l with
 | none => rfl
 | some k => simp [hb] at h; omega
/-- the parts between bytes -/
def splitB (c : UInt8) : Bytes → List Bytes
 | [] => [[]]
 | x :: r => if x.toNat = c.toNat then [] :: splitB c r else match splitB c r with | [] => [[x]] | h :: t => (x :: h) :: t
theorem splitB_ne (c : UInt8) : ∀ l, splitB c l ≠ []
 | [] => by simp [splitB]
 | x :: r => by
   unfold splitB
   split
   ·simp
   ·split <;> simp
theorem splitB_none {c : UInt8} : ∀ {l : Bytes}, findB c l = none → splitB c l = [l]
 | [], _ => by simp [splitB]
 | x :: r, h => by
   unfold findB at h
   split at h
   ·cases h
   ·rename_i hx
    have h' : findB c r = none := by simpa using h
    simp [splitB, hx, splitB_none h']
theorem splitB_some {c : UInt8} : ∀ {l : Bytes} {k : Nat}, findB c l = some k → splitB c l = l.take k :: splitB c (l.drop (k + 1))
 | [], _, h => by simp [findB] at h
 | x :: r, k, h => by
   unfold findB at h
   split at h
   ·rename_i hx
    simp at h; subst h
    simp [splitB, hx]
   ·rename_i hx
    simp only [Option.map_eq_some_iff] at h
    obtain ⟨j, hj, rfl⟩ := h
    simp [splitB, hx, splitB_some hj]
theorem splitB_length (c : UInt8) : ∀ l : Bytes, (splitB c l).length ≤ l.length + 1
 | [] => by simp [splitB]
 | x :: r => by
   have := splitB_length c r
   unfold splitB
   split
   ·simp; omega
   ·split
    ·simp
    ·rename_i h t heq
     rw [heq] at this
     simp at this ⊢; omega
/-! ### host -/
def isSign (c : UInt8) : Bool := (decide (97 ≤ c.toNat) && decide (c.toNat ≤ 122)) || (decide (48 ≤ c.toNat) && decide (c.toNat ≤ 57)) || decide (c.toNat = 45) || decide (c.toNat = 95)
def isDash (c : UInt8) : Bool := decide (c.toNat = 45)
def label (l : Bytes) : Bool := decide (1 ≤ l.length) && decide (l.length ≤ 63) && l.all isSign && !(l.head?.any isDash) && !(l.getLast?.any isDash)
def labels (l : Bytes) : Bool := (splitB 46 l).all label
/-! ### dots, stamps -/
structure Actor where
 dev : Int
 inc : Int
 deriving DecidableEq
structure Dot where
 a : Actor
 seq : Int
 deriving DecidableEq
structure Stamp where
 wall : Int
 count : Int
 dev : Int
 deriving DecidableEq
structure Key where
 name : ByteArray
 domain : ByteArray
 path : ByteArray
 deriving DecidableEq
structure Ck where
 value : ByteArray
 hostOnly : Bool
 secure : Bool
 httpOnly : Bool
 persistent : Bool
 expiry : Int
 creation : Int
 access : Int
 deriving DecidableEq
def orI (a b : Int) : Int := if a = 0 then b else a
end Go.Proofs.YtkklcpmbgfgcmaaGreat
