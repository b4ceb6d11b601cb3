/- Plain functions on bytes, numbers and records: what the program's functions and the references compute. Conditions: none. -/
import Derived.Lib.Hide
set_option linter.unusedSimpArgs false
set_option linter.unusedVariables false
set_option linter.unnecessarySimpa false
namespace Go.Proofs.Ytohmadchgacafaa

abbrev Bytes := List UInt8

/-! ### ascii -/
def isDigit (c : UInt8) : Bool := decide (48 ≤ c.toNat) && decide (c.toNat ≤ 57)
def isBlank (c : UInt8) : Bool := decide (c.toNat = 32) || decide (c.toNat = 9)
def isCtl (c : UInt8) : Bool := (decide (c.toNat < 32) && decide (c.toNat ≠ 9)) || decide (c.toNat = 127)
def lowerB (c : UInt8) : UInt8 := if 65 ≤ c.toNat ∧ c.toNat ≤ 90 then c + 32 else c
def digits (l : Bytes) : Nat := (l.takeWhile isDigit).length
def control (l : Bytes) : Bool := l.any isCtl
def lowerL (l : Bytes) : Bytes := l.map lowerB
def trimL (l : Bytes) : Bytes := l.dropWhile isBlank
def trimR (l : Bytes) : Bytes := (l.reverse.dropWhile isBlank).reverse
def trim (l : Bytes) : Bytes := trimR (trimL l)

def findB (c : UInt8) : Bytes → Option Nat
  | [] => none
  | x :: r => if x.toNat = c.toNat then some 0 else (findB c r).map (· + 1)
def findI (l : Bytes) (c : UInt8) : Int := match findB c l with | none => -1 | some k => k
def findFrom (k : Nat) (l : Bytes) (c : UInt8) : Int := match findB c l with | none => -1 | some j => k + j

theorem findFrom_nil {k : Nat} {c : UInt8} : findFrom k [] c = -1 := by simp [findFrom, findB]
theorem findFrom_cons_eq {k : Nat} {x c : UInt8} {l : Bytes} (h : (x.toNat : Int) = c.toNat) : findFrom k (x :: l) c = k := by
  simp [findFrom, findB, Int.natCast_inj.1 h]
theorem findFrom_cons_ne {k : Nat} {x c : UInt8} {l : Bytes} (h : ¬ (x.toNat : Int) = c.toNat) : findFrom k (x :: l) c = findFrom (k + 1) l c := by
  have h' : ¬ x.toNat = c.toNat := fun e => h (by rw [e])
  simp only [findFrom, findB, if_neg h']
  cases findB c l <;> simp
  omega
theorem findFrom_zero (l : Bytes) (c : UInt8) : findFrom 0 l c = findI l c := by simp [findFrom, findI]
theorem findB_lt {c : UInt8} : ∀ {l : Bytes} {k : Nat}, findB c l = some k → k < l.length
  | [], _, h => by simp [findB] at h
  | x :: r, k, h => by
    unfold findB at h
    split at h
    · simp at h; subst h; simp
    · simp only [Option.map_eq_some_iff] at h
      obtain ⟨j, hj, rfl⟩ := h
      have := findB_lt hj
      simp; omega
theorem findI_nonneg {l : Bytes} {c : UInt8} (h : 0 ≤ findI l c) : ∃ k : Nat, findB c l = some k ∧ findI l c = k ∧ k < l.length := by
  unfold findI at h ⊢
  cases hb : findB c l with
  | none => simp [hb] at h
  | some k => exact ⟨k, rfl, rfl, findB_lt hb⟩
theorem findI_neg {l : Bytes} {c : UInt8} (h : findI l c < 0) : findB c l = none := by
  unfold findI at h
  cases hb : findB c l with
  | none => rfl
  | some k => simp [hb] at h; omega

/-- the parts between bytes -/
def splitB (c : UInt8) : Bytes → List Bytes
  | [] => [[]]
  | x :: r => if x.toNat = c.toNat then [] :: splitB c r else match splitB c r with | [] => [[x]] | h :: t => (x :: h) :: t
theorem splitB_ne (c : UInt8) : ∀ l, splitB c l ≠ []
  | [] => by simp [splitB]
  | x :: r => by
    unfold splitB
    split
    · simp
    · split <;> simp
theorem splitB_none {c : UInt8} : ∀ {l : Bytes}, findB c l = none → splitB c l = [l]
  | [], _ => by simp [splitB]
  | x :: r, h => by
    unfold findB at h
    split at h
    · cases h
    · rename_i hx
      have h' : findB c r = none := by simpa using h
      simp [splitB, hx, splitB_none h']
theorem splitB_some {c : UInt8} : ∀ {l : Bytes} {k : Nat}, findB c l = some k → splitB c l = l.take k :: splitB c (l.drop (k + 1))
  | [], _, h => by simp [findB] at h
  | x :: r, k, h => by
    unfold findB at h
    split at h
    · rename_i hx
      simp at h; subst h
      simp [splitB, hx]
    · rename_i hx
      simp only [Option.map_eq_some_iff] at h
      obtain ⟨j, hj, rfl⟩ := h
      simp [splitB, hx, splitB_some hj]
theorem splitB_length (c : UInt8) : ∀ l : Bytes, (splitB c l).length ≤ l.length + 1
  | [] => by simp [splitB]
  | x :: r => by
    have := splitB_length c r
    unfold splitB
    split
    · simp; omega
    · split
      · simp
      · rename_i h t heq
        rw [heq] at this
        simp at this ⊢; omega

/-- a number's digits, capped -/
def numStep (n : Int) (c : UInt8) : Int := min (n * 10 + ((c.toNat : Int) - 48)) 1099511627776
def numL (l : Bytes) : Int := l.foldl numStep 0
/-- is the text a number, and which -/
def number (l : Bytes) : Int × Bool :=
  match l with
  | [] => (0, false)
  | c :: r => if c.toNat = 45 then (if r = [] ∨ ¬ r.all isDigit then (0, false) else (- numL r, true)) else (if ¬ l.all isDigit then (0, false) else (numL l, true))

theorem digits_lt_iff (l : Bytes) : digits l < l.length ↔ ¬ l.all isDigit = true := by
  unfold digits
  induction l with
  | nil => simp
  | cons x r ih =>
    by_cases hx : isDigit x = true
    · simp [hx] at ih ⊢; exact ih
    · simp [hx]
theorem digits_le (l : Bytes) : digits l ≤ l.length := by
  unfold digits
  induction l with
  | nil => simp
  | cons x r ih =>
    by_cases hx : isDigit x = true
    · simp [hx]; omega
    · simp [hx]

/-- a number's text -/
def textN (n : Nat) : Bytes := if n < 10 then [UInt8.ofNat (48 + n)] else textN (n / 10) ++ [UInt8.ofNat (48 + n % 10)]

/-! ### host -/
def isSign (c : UInt8) : Bool := (decide (97 ≤ c.toNat) && decide (c.toNat ≤ 122)) || (decide (48 ≤ c.toNat) && decide (c.toNat ≤ 57)) || decide (c.toNat = 45) || decide (c.toNat = 95)
def isHexB (c : UInt8) : Bool := (decide (48 ≤ c.toNat) && decide (c.toNat ≤ 57)) || (decide (97 ≤ c.toNat) && decide (c.toNat ≤ 102)) || decide (c.toNat = 58) || decide (c.toNat = 46)
def isDash (c : UInt8) : Bool := decide (c.toNat = 45)
def label (l : Bytes) : Bool := decide (1 ≤ l.length) && decide (l.length ≤ 63) && l.all isSign && !(l.head?.any isDash) && !(l.getLast?.any isDash)
def octet (p : Bytes) : Bool := decide (1 ≤ p.length) && p.all isDigit && decide (numL p ≤ 255) && (decide (p.length ≤ 1) || !(p.head?.any fun c => decide (c.toNat = 48)))
def four (l : Bytes) : Bool := let p := splitB 46 l; decide (p.length = 4) && p.all octet
def bracket (l : Bytes) : Bool := decide (4 ≤ l.length) && decide (l.length ≤ 47) && (l.head?.any fun c => decide (c.toNat = 91)) && (l.getLast?.any fun c => decide (c.toNat = 93)) && ((l.drop 1).take (l.length - 2)).all isHexB
def address (l : Bytes) : Bool := four l || bracket l
def labels (l : Bytes) : Bool := (splitB 46 l).all label
def hname (l : Bytes) : Bool := decide (l.length ≤ 256) && !address l && labels l

/-! ### dots, stamps -/
structure Actor where
  dev : Int
  inc : Int
  deriving DecidableEq
structure Dot where
  a : Actor
  seq : Int
  deriving DecidableEq
structure Stamp where
  wall : Int
  count : Int
  dev : Int
  deriving DecidableEq
structure Key where
  name : ByteArray
  domain : ByteArray
  path : ByteArray
  deriving DecidableEq
structure Ck where
  value : ByteArray
  hostOnly : Bool
  secure : Bool
  httpOnly : Bool
  persistent : Bool
  expiry : Int
  creation : Int
  access : Int
  deriving DecidableEq
def actorOk (a : Actor) : Bool := decide (0 ≤ a.dev) && (decide (a.dev < 64) && (decide (1 ≤ a.inc) && decide (a.inc ≤ 1048576)))
def dotOk (d : Dot) : Bool := actorOk d.a && (decide (1 ≤ d.seq) && decide (d.seq ≤ 4294967296))
def stampOk (s : Stamp) : Bool := (decide (0 ≤ s.wall) && decide (s.wall ≤ 4398046511104)) && ((decide (0 ≤ s.count) && decide (s.count ≤ 65535)) && (decide (0 ≤ s.dev) && decide (s.dev ≤ 63)))
def actorLt (a b : Actor) : Bool := decide (a.dev < b.dev) || (decide (a.dev = b.dev) && decide (a.inc < b.inc))
def dotLt (a b : Dot) : Bool := actorLt a.a b.a || (decide (a.a.dev = b.a.dev) && decide (a.a.inc = b.a.inc) && decide (a.seq < b.seq))
def cmpI (a b : Int) : Int := if a < b then -1 else if b < a then 1 else 0
def orI (a b : Int) : Int := if a = 0 then b else a
def cmpActor (a b : Actor) : Int := orI (cmpI a.dev b.dev) (cmpI a.inc b.inc)
def cmpDot (a b : Dot) : Int := orI (cmpActor a.a b.a) (cmpI a.seq b.seq)
theorem cmpDot_lt (a b : Dot) : decide (cmpDot a b < 0) = dotLt a b := by
  unfold cmpDot cmpActor dotLt actorLt orI cmpI
  rw [Bool.eq_iff_iff]
  simp
  repeat' split
  all_goals omega
end Go.Proofs.Ytohmadchgacafaa
