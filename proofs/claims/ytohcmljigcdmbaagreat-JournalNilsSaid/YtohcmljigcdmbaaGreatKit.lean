/- Plain functions on bytes, numbers and records: what the program's functions and the references compute. Conditions: none. -/
import Derived.Lib.Hide
import Derived.WalkKit
import Derived.WalkSpells
import Derived.WalkLawsBesides
import Derived.Deep.QuietTactic
import Derived.BigQuiet
import Derived.StillTailTactics
import Derived.Deep.RegionHeld3
import Derived.Handy
import Derived.Deep.CutBlock
import Derived.Deep.DeepCutAuto
set_option linter.unusedSimpArgs false
set_option linter.unusedVariables false
set_option linter.unnecessarySimpa false
set_option maxHeartbeats 16000000
set_option maxRecDepth 100000
namespace Go.Proofs.YtohcmljigcdmbaaGreat
abbrev Bytes := List UInt8
/-! ### ascii -/
def isDigit (c : UInt8) : Bool := decide (48 ≤ c.toNat) && decide (c.toNat ≤ 57)
def isBlank (c : UInt8) : Bool := decide (c.toNat = 32) || decide (c.toNat = 9)
def isCtl (c : UInt8) : Bool := (decide (c.toNat < 32) && decide (c.toNat ≠ 9)) || decide (c.toNat = 127)
def lowerB (c : UInt8) : UInt8 := if 65 ≤ c.toNat ∧ c.toNat ≤ 90 then c + 32 else c
def digits (l : Bytes) : Nat := (l.takeWhile isDigit).length
def control (l : Bytes) : Bool := l.any isCtl
def lowerL (l : Bytes) : Bytes := l.map lowerB
def trimL (l : Bytes) : Bytes := l.dropWhile isBlank
def trimR (l : Bytes) : Bytes := (l.reverse.dropWhile isBlank).reverse
def trim (l : Bytes) : Bytes := trimR (trimL l)
def findB (c : UInt8) : Bytes → Option Nat
 | [] => none
 | x :: r => if x.toNat = c.toNat then some 0 else (findB c r).map (· + 1)
def findI (l : Bytes) (c : UInt8) : Int := match findB c l with | none => -1 | some k => k
def findFrom (k : Nat) (l : Bytes) (c : UInt8) : Int := match findB c l with | none => -1 | some j => k + j
theorem findFrom_nil {k : Nat} {c : UInt8} : findFrom k [] c = -1 := by simp [findFrom, findB]
theorem findFrom_cons_eq {k : Nat} {x c : UInt8} {l : Bytes} (h : (x.toNat : Int) = c.toNat) : findFrom k (x :: l) c = k := by
 simp [findFrom, findB, Int.natCast_inj.1 h]
theorem findFrom_cons_ne {k : Nat} {x c : UInt8} {l : Bytes} (h : ¬ (x.toNat : Int) = c.toNat) : findFrom k (x :: l) c = findFrom (k + 1) l c := by
 have h' : ¬ x.toNat = c.toNat := fun e => h (by rw [e])
 simp only [findFrom, findB, if_neg h']
 cases findB c l <;> simp
 omega
theorem findFrom_zero (l : Bytes) (c : UInt8) : findFrom 0 l c = findI l c := by simp [findFrom, findI]
theorem findB_lt {c : UInt8} : ∀ {l : Bytes} {k : Nat}, findB c l = some k → k < l.length
 | [], _, h => by simp [findB] at h
 | x :: r, k, h => by
   unfold findB at h
   split at h
   ·simp at h; subst h; simp
   ·simp only [Option.map_eq_some_iff] at h
    obtain ⟨j, hj, rfl⟩ := h
    have := findB_lt hj
    simp; omega
theorem findI_nonneg {l : Bytes} {c : UInt8} (h : 0 ≤ findI l c) : ∃ k : Nat, findB c l = some k ∧ findI l c = k ∧ k < l.length := by
 unfold findI at h ⊢
 cases hb : findB c l with
 | none => simp [hb] at h
 | some k => exact ⟨k, rfl, rfl, findB_lt hb⟩
theorem findI_neg {l : Bytes} {c : UInt8} (h : findI l c < 0) : findB c l = none := by
 unfold findI at h
 cases hb : findB c l with
 | none => rfl
 | some k => simp [hb] at h; omega
/-- the parts between bytes -/
def splitB (c : UInt8) : Bytes → List Bytes
 | [] => [[]]
 | x :: r => if x.toNat = c.toNat then [] :: splitB c r else match splitB c r with | [] => [[x]] | h :: t => (x :: h) :: t
theorem splitB_ne (c : UInt8) : ∀ l, splitB c l ≠ []
 | [] => by simp [splitB]
 | x :: r => by
   unfold splitB
   split
   ·simp
   ·split <;> simp
theorem splitB_none {c : UInt8} : ∀ {l : Bytes}, findB c l = none → splitB c l = [l]
 | [], _ => by simp [splitB]
 | x :: r, h => by
   unfold findB at h
   split at h
   ·cases h
   ·rename_i hx
    have h' : findB c r = none := by simpa using h
    simp [splitB, hx, splitB_none h']
theorem splitB_some {c : UInt8} : ∀ {l : Bytes} {k : Nat}, findB c l = some k → splitB c l = l.take k :: splitB c (l.drop (k + 1))
 | [], _, h => by simp [findB] at h
 | x :: r, k, h => by
   unfold findB at h
   split at h
   ·rename_i hx
    simp at h; subst h
    simp [splitB, hx]
   ·rename_i hx
    simp only [Option.map_eq_some_iff] at h
    obtain ⟨j, hj, rfl⟩ := h
    simp [splitB, hx, splitB_some hj]
theorem splitB_length (c : UInt8) : ∀ l : Bytes, (splitB c l).length ≤ l.length + 1
 | [] => by simp [splitB]
 | x :: r => by
   have := splitB_length c r
   unfold splitB
   split
   ·simp; omega
   ·split
    ·simp
    ·rename_i h t heq
     rw [heq] at this
     simp at this ⊢; omega
/-- a number's digits, capped -/
def numStep (n : Int) (c : UInt8) : Int := min (n * 10 + ((c.toNat : Int) - 48)) 1099511627776
def numL (l : Bytes) : Int := l.foldl numStep 0
/-- is the text a number, and which -/
def number (l : Bytes) : Int × Bool :=
 match l with
 | [] => (0, false)
 | c :: r => if c.toNat = 45 then (if r = [] ∨ ¬ r.all isDigit then (0, false) else (- numL r, true)) else (if ¬ l.all isDigit then (0, false) else (numL l, true))
theorem digits_lt_iff (l : Bytes) : digits l < l.length ↔ ¬ l.all isDigit = true := by
 unfold digits
 induction l with
 | nil => simp
 | cons x r ih =>
   by_cases hx : isDigit x = true
   ·simp [hx] at ih ⊢; exact ih
   ·simp [hx]
theorem digits_le (l : Bytes) : digits l ≤ l.length := by
 unfold digits
 induction l with
 | nil => simp
 | cons x r ih =>
   by_cases hx : isDigit x = true
   ·simp [hx]; omega
   ·simp [hx]
/-! ### host -/
def isSign (c : UInt8) : Bool := (decide (97 ≤ c.toNat) && decide (c.toNat ≤ 122)) || (decide (48 ≤ c.toNat) && decide (c.toNat ≤ 57)) || decide (c.toNat = 45) || decide (c.toNat = 95)
def isHexB (c : UInt8) : Bool := (decide (48 ≤ c.toNat) && decide (c.toNat ≤ 57)) || (decide (97 ≤ c.toNat) && decide (c.toNat ≤ 102)) || decide (c.toNat = 58) || decide (c.toNat = 46)
def isDash (c : UInt8) : Bool := decide (c.toNat = 45)
def label (l : Bytes) : Bool := decide (1 ≤ l.length) && decide (l.length ≤ 63) && l.all isSign && !(l.head?.any isDash) && !(l.getLast?.any isDash)
def octet (p : Bytes) : Bool := decide (1 ≤ p.length) && p.all isDigit && decide (numL p ≤ 255) && (decide (p.length ≤ 1) || !(p.head?.any fun c => decide (c.toNat = 48)))
def four (l : Bytes) : Bool := let p := splitB 46 l; decide (p.length = 4) && p.all octet
def bracket (l : Bytes) : Bool := decide (4 ≤ l.length) && decide (l.length ≤ 47) && (l.head?.any fun c => decide (c.toNat = 91)) && (l.getLast?.any fun c => decide (c.toNat = 93)) && ((l.drop 1).take (l.length - 2)).all isHexB
def address (l : Bytes) : Bool := four l || bracket l
def labels (l : Bytes) : Bool := (splitB 46 l).all label
def hname (l : Bytes) : Bool := decide (l.length ≤ 256) && !address l && labels l
/-! ### dots, stamps -/
structure Actor where
 dev : Int
 inc : Int
 deriving DecidableEq
structure Dot where
 a : Actor
 seq : Int
 deriving DecidableEq
structure Stamp where
 wall : Int
 count : Int
 dev : Int
 deriving DecidableEq
structure Key where
 name : ByteArray
 domain : ByteArray
 path : ByteArray
 deriving DecidableEq
structure Ck where
 value : ByteArray
 hostOnly : Bool
 secure : Bool
 httpOnly : Bool
 persistent : Bool
 expiry : Int
 creation : Int
 access : Int
 deriving DecidableEq
def actorOk (a : Actor) : Bool := decide (0 ≤ a.dev) && (decide (a.dev < 64) && (decide (1 ≤ a.inc) && decide (a.inc ≤ 1048576)))
def dotOk (d : Dot) : Bool := actorOk d.a && (decide (1 ≤ d.seq) && decide (d.seq ≤ 4294967296))
def stampOk (s : Stamp) : Bool := (decide (0 ≤ s.wall) && decide (s.wall ≤ 4398046511104)) && ((decide (0 ≤ s.count) && decide (s.count ≤ 65535)) && (decide (0 ≤ s.dev) && decide (s.dev ≤ 63)))
def actorLt (a b : Actor) : Bool := decide (a.dev < b.dev) || (decide (a.dev = b.dev) && decide (a.inc < b.inc))
def dotLt (a b : Dot) : Bool := actorLt a.a b.a || (decide (a.a.dev = b.a.dev) && decide (a.a.inc = b.a.inc) && decide (a.seq < b.seq))
def cmpI (a b : Int) : Int := if a < b then -1 else if b < a then 1 else 0
def orI (a b : Int) : Int := if a = 0 then b else a
def cmpActor (a b : Actor) : Int := orI (cmpI a.dev b.dev) (cmpI a.inc b.inc)
def cmpDot (a b : Dot) : Int := orI (cmpActor a.a b.a) (cmpI a.seq b.seq)
theorem cmpDot_lt (a b : Dot) : decide (cmpDot a b < 0) = dotLt a b := by
 unfold cmpDot cmpActor dotLt actorLt orI cmpI
 rw [Bool.eq_iff_iff]
 simp
 repeat' split
 all_goals omega
end Go.Proofs.YtohcmljigcdmbaaGreat
/- Small laws for the walks: regions whose order is open and whose operations leave what was there alone; readings of memory. Conditions: none. -/
namespace Go.Proofs.YtohcmljigcdmbaaGreat
open Go.RowKit
theorem ret_int {k : IntKind} {a b : Int} (h : a = b) : Ending.returned (.int k a) = .returned (.int k b) := by rw [h]
theorem ret_bool {a b : Bool} (h : a = b) : Ending.returned (.bool a) = .returned (.bool b) := by rw [h]
theorem ret_val {a b : Value} (h : a = b) : Ending.returned a = .returned b := by rw [h]
/-- a string's bytes -/
abbrev bl (s : ByteArray) : Bytes := s.data.toList
theorem bl_length (s : ByteArray) : (bl s).length = s.size := rfl
theorem drop_cons (s : ByteArray) (k : Nat) (h : k < s.size) : (bl s).drop k = s[k] :: (bl s).drop (k + 1) := by
 rw [List.drop_eq_getElem_cons (by simpa using h)]; rfl
theorem drop_all (s : ByteArray) (k : Nat) (h : ¬ k < s.size) : (bl s).drop k = [] := by
 rw [List.drop_eq_nil_iff]; simpa using h
theorem bl_extract (s : ByteArray) (a b : Nat) : bl (s.extract a b) = ((bl s).take b).drop a := by
 simp [bl, ByteArray.data_extract, Array.toList_extract, List.extract_eq_take_drop, List.drop_take]
theorem bl_inj {s t : ByteArray} (h : bl s = bl t) : s = t := by
 cases s; cases t; congr; exact Array.ext' h
/-- the string of some bytes -/
def mkS (l : Bytes) : ByteArray := ⟨l.toArray⟩
theorem bl_mkS (l : Bytes) : bl (mkS l) = l := rfl
theorem mkS_bl (s : ByteArray) : mkS (bl s) = s := bl_inj rfl
theorem mkS_of {s : ByteArray} {l : Bytes} (h : bl s = l) : s = mkS l := bl_inj h
theorem mkS_size (l : Bytes) : (mkS l).size = l.length := rfl
theorem mkS_take (s : ByteArray) (k : Nat) : mkS ((bl s).take k) = s.extract 0 k := (mkS_of (by rw [bl_extract]; simp)).symm
theorem mkS_drop (s : ByteArray) (k : Nat) : mkS ((bl s).drop k) = s.extract k s.size := (mkS_of (by rw [bl_extract, List.take_of_length_le (by simp [bl_length])])).symm
def strLen : Value → Nat | .string s => s.size | _ => 0
theorem str_ne {t : ByteArray} (h : 0 < t.size) : ¬ t.toList = [] := by
 rw [ByteArray.toList_eq]; intro e
 have h2 : (bl t).length = 0 := by simp [bl, e]
 rw [bl_length] at h2; omega
theorem str_ne' {t : ByteArray} (h : 0 < t.size) : t.toList.isEmpty = false := by simpa using str_ne h
theorem bl_nil {t : ByteArray} (h : ¬ 0 < t.size) : bl t = [] := by rw [← List.length_eq_zero_iff, bl_length]; omega
theorem str_nil {t : ByteArray} (h : ¬ 0 < t.size) : t.toList = [] := by
 rw [ByteArray.toList_eq]; exact bl_nil h
theorem str_nil' {t : ByteArray} (h : ¬ 0 < t.size) : t.toList.isEmpty = true := by simpa using str_nil h
theorem str_beq (a b : ByteArray) : (a.toList == b.toList) = decide (bl a = bl b) := by
 rw [ByteArray.toList_eq, ByteArray.toList_eq, Bool.eq_iff_iff, beq_iff_eq, decide_eq_true_eq]
/-! ### what stays -/
theorem kept {W w1 : World} (hb : Below W.heap.size W w1) {p : Addr} {v : Value} (h : W.cell? p = some v) : w1.cell? p = some v :=
 (hb.cell (World.block_lt_of_cell? W p h)).trans h
theorem bcell {W w1 : World} (hb : Below W.heap.size W w1) : (∀ b o, b < W.heap.size → w1.cell? ⟨b, o, none⟩ = W.cell? ⟨b, o, none⟩) ∧ (∀ b o, b < W.heap.size → w1.frozen? ⟨b, o, none⟩ = W.frozen? ⟨b, o, none⟩) :=
 ⟨fun b o h => hb.cell (p := ⟨b, o, none⟩) h, fun b o h => hb.frozen (p := ⟨b, o, none⟩) h⟩
/-- two steps, each leaving what was there alone -/
theorem below2 {a b c : World} (h : Below a.heap.size a b) (k : Below b.heap.size b c) : Below a.heap.size a c := h.trans (k.mono h.size)
theorem ownsRow_below {w w1 : World} {base : Nat} {e : TypeId} {size : Nat} {v : Value} {n : Nat} {xs : List Value} (h : w.ownsRow base e size v n xs) (hb : Below w.heap.size w w1) : w1.ownsRow base e size v n xs := by
 refine ⟨h.1, ?_⟩
 rcases h.2 with hn | ⟨g, cap, cur, rfl, hbs, hgg, rest⟩
 ·exact .inl hn
 ·exact .inr ⟨g, cap, cur, rfl, hbs, by rw [hb.block g (Array.getElem?_eq_some_iff.1 hgg).1]; exact hgg, rest⟩
/-- A world behind W, in which all that was there is as it was. -/
structure After (W : World) where
 w : World
 h : Below W.heap.size W w
instance (W : World) : Nonempty (After W) := ⟨⟨W, Below.refl _ _⟩⟩
theorem After.cell {W : World} (i : After W) {p : Addr} {v : Value} (h : W.cell? p = some v) : i.w.cell? p = some v := kept i.h h
theorem Calls.after {P : Program} {f : FuncId} {args : Array Value} {W : World} {i : After W} {v : Value}
 (h : Calls P f args i.w fun e w' => e = .returned v ∧ Below i.w.heap.size i.w w') : Calls P f args i.w fun e w'' => e = .returned v ∧ ∃ j : After W, w'' = j.w :=
 h.mono fun _ w2 ⟨he, hb⟩ => ⟨he, ⟨w2, i.h.trans (hb.mono i.h.size)⟩, rfl⟩
/-- A region whose order is open: one walk of the order of the text serves, every operation leaving what was there alone. -/
theorem wp_region_after {P : Program} {id : Nat} {Q : Exit → Act → World → Prop} {a : Act} {w : World} {l : List Oper} (hm : P.follows .mixedOrders = true) (hB : Region.lexB .any l.toArray = true)
 (h : ∀ W, Hid (W = w) → wpQuiet P l.toArray (fun w' => ∃ i : After W, w' = i.w) (fun a' => ∀ w', (∃ i : After W, w' = i.w) → Q .normal a' w') l a) : (Code.region id l.toArray true).wp P Q a w :=
 wp_region_quiet (C := fun w' => ∃ i : After w, w' = i.w) hm hB ⟨⟨w.drew, (Below.refl _ _).drew⟩, rfl⟩ (by simpa using h w rfl)
/-- The world gets a name. -/
theorem wp_name {P : Program} {c : Code} {Q : Exit → Act → World → Prop} {a : Act} {w : World} (h : ∀ W, Hid (W = w) → Code.wp P c Q a W) : Code.wp P c Q a w := h w rfl
/-! ### bytes in memory -/
/-- from block b, place off on lie these bytes -/
def BytesAt (w : World) (b off : Nat) (l : Bytes) : Prop := ∀ j (h : j < l.length), w.cell? ⟨b, off + j, none⟩ = some (.int .u8 l[j].toNat)
/-- n places of block b from off on may be written -/
def FreeAt (w : World) (b off n : Nat) : Prop := ∀ j, j < n → w.frozen? ⟨b, off + j, none⟩ = false
theorem BytesAt.below {w w' : World} {b off : Nat} {l : Bytes} (h : BytesAt w b off l) (hb : Below w.heap.size w w') : BytesAt w' b off l := fun j hj => kept hb (h j hj)
theorem BytesAt.cell {w : World} {b off : Nat} {l : Bytes} (h : BytesAt w b off l) {j : Nat} (hj : j < l.length) : w.cell? ⟨b, off + j, none⟩ = some (.int .u8 l[j].toNat) := h j hj
theorem BytesAt.block {w : World} {b off : Nat} {l : Bytes} (h : BytesAt w b off l) (hl : 0 < l.length) : b < w.heap.size := World.block_lt_of_cell? w _ (h 0 hl)
theorem BytesAt.set {w : World} {b off : Nat} {l : Bytes} (h : BytesAt w b off l) {k : Nat} (hk : k < l.length) (c : UInt8) : BytesAt (w.setCell ⟨b, off + k, none⟩ (.int .u8 c.toNat)) b off (l.set k c) := by
 intro j hj
 simp only [List.length_set] at hj
 by_cases e : k = j
 ·subst e
  simp only [List.getElem_set_self]
  exact World.cell?_setCell_same _ _ _ (h k hk)
 ·rw [List.getElem_set_ne e]
  rw [World.cell?_setCell_other _ _ _ _ (fun h' => e (by simp only [Addr.mk.injEq] at h'; omega))]
  exact h j hj
theorem FreeAt.set {w : World} {b off n : Nat} (h : FreeAt w b off n) (a : Addr) (v : Value) : FreeAt (w.setCell a v) b off n := fun j hj => by
 rw [World.frozen?_setCell]; exact h j hj
theorem conv_str {P : Program} (src dst e : TypeId) (hs : P.underlying src = some .string) (hd : P.underlying dst = some (.slice e)) (he : P.underlying e = some (.int .u8)) (w : World) (s : ByteArray) :
 ∃ cap w1, (convert src dst (.string s)).run P w = .ok (.slice (some ⟨w.heap.size, 0, none⟩) s.size cap) w1 ∧ Below w.heap.size w w1 ∧ w1.heap.size = w.heap.size + 1 ∧ s.size ≤ cap ∧
   BytesAt w1 w.heap.size 0 (bl s) ∧ FreeAt w1 w.heap.size 0 s.size := by
 refine ⟨_, _, run_bytes_of_string w src dst e s hs hd he, ?_, ?_, grownCap_ge _ _ _ _, ?_, ?_⟩
 ·exact ((Below.refl _ _).drew).alloc (Nat.le_refl _) _
 ·simp
 ·intro j hj
  have hj' : j < s.data.size := hj
  simp only [World.cell?, World.alloc, Nat.zero_add]
  rw [show w.drew.heap = w.heap from rfl]
  simp [bytesRow_at s _ j hj']
 ·intro j hj
  simp only [World.frozen?, World.alloc, Nat.zero_add]
  rw [show w.drew.heap = w.heap from rfl]
  simp [bytesRow]
  omega
end Go.Proofs.YtohcmljigcdmbaaGreat
/- Frames: nothing that was there has turned, but for some blocks. Conditions: none. -/
namespace Go.Proofs.YtohcmljigcdmbaaGreat
open Go.RowKit
/-- Nothing that was there has turned, but for the blocks of S. -/
structure Fr (S : Nat → Prop) (w w' : World) : Prop where
 os : w'.os = w.os
 tape : w'.tape = w.tape
 output : w'.output = w.output
 size : w.heap.size ≤ w'.heap.size
 block : ∀ k, k < w.heap.size → ¬ S k → w'.heap[k]? = w.heap[k]?
/-- S, and all that is new -/
def grow (S : Nat → Prop) (w : World) : Nat → Prop := fun k => S k ∨ w.heap.size ≤ k
theorem Fr.refl (S : Nat → Prop) (w : World) : Fr S w w := ⟨rfl, rfl, rfl, Nat.le_refl _, fun _ _ _ => rfl⟩
theorem Fr.trans {S : Nat → Prop} {a b c : World} (h : Fr S a b) (k : Fr (grow S a) b c) : Fr S a c :=
 ⟨k.os.trans h.os, k.tape.trans h.tape, k.output.trans h.output, Nat.le_trans h.size k.size, fun i hi hs =>
  (k.block i (Nat.lt_of_lt_of_le hi h.size) (fun g => by rcases g with g | g; exact hs g; omega)).trans (h.block i hi hs)⟩
theorem Fr.mono {S T : Nat → Prop} {a b : World} (h : Fr S a b) (hST : ∀ k, k < a.heap.size → S k → T k) : Fr T a b :=
 ⟨h.os, h.tape, h.output, h.size, fun i hi hs => h.block i hi (fun g => hs (hST i hi g))⟩
theorem Fr.of_below {S : Nat → Prop} {a b : World} (h : Below a.heap.size a b) : Fr S a b := ⟨h.os, h.tape, h.output, h.size, fun k hk _ => h.block k hk⟩
theorem Fr.kept {S : Nat → Prop} {w w' : World} (h : Fr S w w') {p : Addr} {v : Value} (hc : w.cell? p = some v) (hs : ¬ S p.block) : w'.cell? p = some v :=
 (World.cell?_of_block (w := w) (h.block p.block (World.block_lt_of_cell? w p hc) hs)).trans hc
theorem Fr.below {S : Nat → Prop} {w w' : World} (h : Fr S w w') {B : Nat} (hB : B ≤ w.heap.size) (hS : ∀ k, S k → B ≤ k) : Below B w w' :=
 ⟨h.os, h.tape, h.output, h.size, fun k hk => h.block k (by omega) (fun g => by have := hS k g; omega)⟩
theorem heap_setCell_other (w : World) (a : Addr) (v : Value) (g : Nat) (h : a.block ≠ g) : (w.setCell a v).heap[g]? = w.heap[g]? := by
 simp [World.setCell, Array.getElem?_modify, h]
theorem heap_setRow_other (w : World) (b : Nat) (cs : Array Value) (g : Nat) (h : b ≠ g) : (w.setRow b cs).heap[g]? = w.heap[g]? := by
 simp [World.setRow, Array.getElem?_modify, h]
theorem two_set0 {w : World} {R : Nat} {x y : Value} {t : TypeId} {f : Nat × Nat} (h : w.heap[R]? = some (.cells #[x, y] t f)) (v : Value) : (w.setCell ⟨R, 0, none⟩ v).heap[R]? = some (.cells #[v, y] t f) := by
 simp [World.setCell, Array.getElem?_modify, h]
theorem two_set1 {w : World} {R : Nat} {x y : Value} {t : TypeId} {f : Nat × Nat} (h : w.heap[R]? = some (.cells #[x, y] t f)) (v : Value) : (w.setCell ⟨R, 1, none⟩ v).heap[R]? = some (.cells #[x, v] t f) := by
 simp [World.setCell, Array.getElem?_modify, h]
theorem two_cell {w : World} {R : Nat} {x y : Value} {t : TypeId} (h : w.heap[R]? = some (.cells #[x, y] t (0, 0))) : w.cell? ⟨R, 0, none⟩ = some x ∧ w.cell? ⟨R, 1, none⟩ = some y ∧ w.frozen? ⟨R, 0, none⟩ = false ∧ w.frozen? ⟨R, 1, none⟩ = false := by
 simp [World.cell?, World.frozen?, h]
abbrev isR (R : Nat) : Nat → Prop := fun k => k = R
theorem fr_set {w : World} {R o : Nat} (v : Value) : Fr (isR R) w (w.setCell ⟨R, o, none⟩ v) :=
 ⟨rfl, rfl, rfl, by simp, fun k _ hk => heap_setCell_other _ _ _ _ (fun e => hk e.symm)⟩
/-- one footprint, again and again -/
theorem Fr.again {S : Nat → Prop} {a b c : World} (h : Fr S a b) (k : Fr S b c) : Fr S a c := h.trans (k.mono fun _ _ g => Or.inl g)
theorem heap_last0 (w : World) (o : Obj) : (w.alloc o).heap[w.heap.size]? = some o := by show (w.heap.push o)[w.heap.size]? = some o; simp
theorem heap_last1 (w : World) (o p : Obj) : ((w.alloc o).alloc p).heap[w.heap.size + 1]? = some p := by
 have := heap_last0 (w.alloc o) p
 rwa [show (w.alloc o).heap.size = w.heap.size + 1 by simp] at this
theorem pA (a : Act) (i : Tmp) (v : Value) : a.put (some i) v = { a with tmps := a.tmps.setIfInBounds i v } := rfl
theorem pE (a : Act) (v : Value) : a.put none v = a := rfl
theorem pB {α : Type} (l : List α) (i : Nat) (a : α) : l.toArray.setIfInBounds i a = (l.set i a).toArray := List.setIfInBounds_toArray l i a
theorem pC {α : Type} (a b : α) (l : List α) : (a :: l).set 0 b = b :: l := rfl
theorem pD {α : Type} (a b : α) (l : List α) (n : Nat) : (a :: l).set (n + 1) b = a :: l.set n b := rfl
theorem pS : (∀ (a : Act) (i : Tmp) (v : Value), a.put (some i) v = { a with tmps := a.tmps.setIfInBounds i v }) ∧ (∀ (a : Act) (v : Value), a.put none v = a) ∧ (∀ (l : List Value) (i : Nat) (a : Value), l.toArray.setIfInBounds i a = (l.set i a).toArray) ∧ (∀ (a b : Value) (l : List Value), (a :: l).set 0 b = b :: l) ∧ (∀ (a b : Value) (l : List Value) (n : Nat), (a :: l).set (n + 1) b = a :: l.set n b) ∧ (∀ (l : List Bool) (i : Nat) (a : Bool), l.toArray.setIfInBounds i a = (l.set i a).toArray) ∧ (∀ (a b : Bool) (l : List Bool), (a :: l).set 0 b = b :: l) ∧ ∀ (a b : Bool) (l : List Bool) (n : Nat), (a :: l).set (n + 1) b = a :: l.set n b :=
 ⟨pA, pE, pB, pC, pD, pB, pC, pD⟩
end Go.Proofs.YtohcmljigcdmbaaGreat
