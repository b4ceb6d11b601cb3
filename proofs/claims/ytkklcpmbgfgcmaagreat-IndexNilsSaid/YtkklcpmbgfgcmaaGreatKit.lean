/- Small laws for the walks: regions whose order is open and whose operations leave what was there alone; readings of memory. Conditions: none. -/
import Derived.WalkKit
import Derived.WalkSpells
import Derived.WalkLawsBesides
import Derived.Deep.QuietTactic
import Derived.BigQuiet
import Derived.StillTailTactics
import Derived.Deep.RegionHeld3
import Derived.Lib.Hide
import Derived.Handy
import Derived.Deep.CutBlock
import Derived.Deep.DeepCutAuto
import Derived.Test.YtkklcpmbgfgcmaaGreatDefs
set_option linter.unusedSimpArgs false
set_option linter.unusedVariables false
set_option linter.unnecessarySimpa false
namespace Go.Proofs.YtkklcpmbgfgcmaaGreat
open Go.RowKit
theorem ret_int {k : IntKind} {a b : Int} (h : a = b) : Ending.returned (.int k a) = .returned (.int k b) := by rw [h]
theorem ret_bool {a b : Bool} (h : a = b) : Ending.returned (.bool a) = .returned (.bool b) := by rw [h]
theorem ret_val {a b : Value} (h : a = b) : Ending.returned a = .returned b := by rw [h]
/-- a string's bytes -/
abbrev bl (s : ByteArray) : Bytes := s.data.toList
theorem bl_length (s : ByteArray) : (bl s).length = s.size := rfl
theorem drop_cons (s : ByteArray) (k : Nat) (h : k < s.size) : (bl s).drop k = s[k] :: (bl s).drop (k + 1) := by
 rw [List.drop_eq_getElem_cons (by simpa using h)]; rfl
theorem drop_all (s : ByteArray) (k : Nat) (h : ¬ k < s.size) : (bl s).drop k = [] := by
 rw [List.drop_eq_nil_iff]; simpa using h
theorem bl_extract (s : ByteArray) (a b : Nat) : bl (s.extract a b) = ((bl s).take b).drop a := by
 simp [bl, ByteArray.data_extract, Array.toList_extract, List.extract_eq_take_drop, List.drop_take]
theorem bl_inj {s t : ByteArray} (h : bl s = bl t) : s = t := by
 cases s; cases t; congr; exact Array.ext' h
/-- the string of some bytes -/
def mkS (l : Bytes) : ByteArray := ⟨l.toArray⟩
theorem bl_mkS (l : Bytes) : bl (mkS l) = l := rfl
theorem mkS_bl (s : ByteArray) : mkS (bl s) = s := bl_inj rfl
theorem mkS_of {s : ByteArray} {l : Bytes} (h : bl s = l) : s = mkS l := bl_inj h
theorem mkS_size (l : Bytes) : (mkS l).size = l.length := rfl
theorem mkS_take (s : ByteArray) (k : Nat) : mkS ((bl s).take k) = s.extract 0 k := (mkS_of (by rw [bl_extract]; simp)).symm
theorem mkS_drop (s : ByteArray) (k : Nat) : mkS ((bl s).drop k) = s.extract k s.size := (mkS_of (by rw [bl_extract, List.take_of_length_le (by simp [bl_length])])).symm
def strLen : Value → Nat | .string s => s.size | _ => 0
/-! ### what stays -/
theorem kept {W w1 : World} (hb : Below W.heap.size W w1) {p : Addr} {v : Value} (h : W.cell? p = some v) : w1.cell? p = some v :=
 (hb.cell (World.block_lt_of_cell? W p h)).trans h
/-- two steps, each leaving what was there alone -/
theorem below2 {a b c : World} (h : Below a.heap.size a b) (k : Below b.heap.size b c) : Below a.heap.size a c := h.trans (k.mono h.size)
theorem ownsRow_below {w w1 : World} {base : Nat} {e : TypeId} {size : Nat} {v : Value} {n : Nat} {xs : List Value} (h : w.ownsRow base e size v n xs) (hb : Below w.heap.size w w1) : w1.ownsRow base e size v n xs := by
 refine ⟨h.1, ?_⟩
 rcases h.2 with hn | ⟨g, cap, cur, rfl, hbs, hgg, rest⟩
 ·exact .inl hn
 ·exact .inr ⟨g, cap, cur, rfl, hbs, by rw [hb.block g (Array.getElem?_eq_some_iff.1 hgg).1]; exact hgg, rest⟩
/-- A world behind W, in which all that was there is as it was. -/
structure After (W : World) where
 w : World
 h : Below W.heap.size W w
instance (W : World) : Nonempty (After W) := ⟨⟨W, Below.refl _ _⟩⟩
theorem After.cell {W : World} (i : After W) {p : Addr} {v : Value} (h : W.cell? p = some v) : i.w.cell? p = some v := kept i.h h
theorem Calls.after {P : Program} {f : FuncId} {args : Array Value} {W : World} {i : After W} {v : Value}
 (h : Calls P f args i.w fun e w' => e = .returned v ∧ Below i.w.heap.size i.w w') : Calls P f args i.w fun e w'' => e = .returned v ∧ ∃ j : After W, w'' = j.w :=
 h.mono fun _ w2 ⟨he, hb⟩ => ⟨he, ⟨w2, i.h.trans (hb.mono i.h.size)⟩, rfl⟩
/-- A region whose order is open: one walk of the order of the text serves, every operation leaving what was there alone. -/
theorem wp_region_after {P : Program} {id : Nat} {Q : Exit → Act → World → Prop} {a : Act} {w : World} {l : List Oper} (hm : P.follows .mixedOrders = true) (hB : Region.lexB .any l.toArray = true)
 (h : ∀ W, Hid (W = w) → wpQuiet P l.toArray (fun w' => ∃ i : After W, w' = i.w) (fun a' => ∀ w', (∃ i : After W, w' = i.w) → Q .normal a' w') l a) : (Code.region id l.toArray true).wp P Q a w :=
 wp_region_quiet (C := fun w' => ∃ i : After w, w' = i.w) hm hB ⟨⟨w.drew, (Below.refl _ _).drew⟩, rfl⟩ (by simpa using h w rfl)
/-- The world gets a name. -/
theorem wp_name {P : Program} {c : Code} {Q : Exit → Act → World → Prop} {a : Act} {w : World} (h : ∀ W, Hid (W = w) → Code.wp P c Q a W) : Code.wp P c Q a w := h w rfl
/-! ### bytes in memory -/
/-- from block b, place off on lie these bytes -/
def BytesAt (w : World) (b off : Nat) (l : Bytes) : Prop := ∀ j (h : j < l.length), w.cell? ⟨b, off + j, none⟩ = some (.int .u8 l[j].toNat)
theorem BytesAt.below {w w' : World} {b off : Nat} {l : Bytes} (h : BytesAt w b off l) (hb : Below w.heap.size w w') : BytesAt w' b off l := fun j hj => kept hb (h j hj)
theorem BytesAt.cell {w : World} {b off : Nat} {l : Bytes} (h : BytesAt w b off l) {j : Nat} (hj : j < l.length) : w.cell? ⟨b, off + j, none⟩ = some (.int .u8 l[j].toNat) := h j hj
theorem BytesAt.block {w : World} {b off : Nat} {l : Bytes} (h : BytesAt w b off l) (hl : 0 < l.length) : b < w.heap.size := World.block_lt_of_cell? w _ (h 0 hl)
end Go.Proofs.YtkklcpmbgfgcmaaGreat
/- Frames: nothing that was there has turned, but for some blocks. Conditions: none. -/
namespace Go.Proofs.YtkklcpmbgfgcmaaGreat
open Go.RowKit
/-- Nothing that was there has turned, but for the blocks of S. -/
structure Fr (S : Nat → Prop) (w w' : World) : Prop where
 os : w'.os = w.os
 tape : w'.tape = w.tape
 output : w'.output = w.output
 size : w.heap.size ≤ w'.heap.size
 block : ∀ k, k < w.heap.size → ¬ S k → w'.heap[k]? = w.heap[k]?
/-- S, and all that is new -/
def grow (S : Nat → Prop) (w : World) : Nat → Prop := fun k => S k ∨ w.heap.size ≤ k
theorem Fr.refl (S : Nat → Prop) (w : World) : Fr S w w := ⟨rfl, rfl, rfl, Nat.le_refl _, fun _ _ _ => rfl⟩
theorem Fr.trans {S : Nat → Prop} {a b c : World} (h : Fr S a b) (k : Fr (grow S a) b c) : Fr S a c :=
 ⟨k.os.trans h.os, k.tape.trans h.tape, k.output.trans h.output, Nat.le_trans h.size k.size, fun i hi hs =>
  (k.block i (Nat.lt_of_lt_of_le hi h.size) (fun g => by rcases g with g | g; exact hs g; omega)).trans (h.block i hi hs)⟩
theorem Fr.mono {S T : Nat → Prop} {a b : World} (h : Fr S a b) (hST : ∀ k, k < a.heap.size → S k → T k) : Fr T a b :=
 ⟨h.os, h.tape, h.output, h.size, fun i hi hs => h.block i hi (fun g => hs (hST i hi g))⟩
theorem Fr.of_below {S : Nat → Prop} {a b : World} (h : Below a.heap.size a b) : Fr S a b := ⟨h.os, h.tape, h.output, h.size, fun k hk _ => h.block k hk⟩
theorem Fr.kept {S : Nat → Prop} {w w' : World} (h : Fr S w w') {p : Addr} {v : Value} (hc : w.cell? p = some v) (hs : ¬ S p.block) : w'.cell? p = some v :=
 (World.cell?_of_block (w := w) (h.block p.block (World.block_lt_of_cell? w p hc) hs)).trans hc
theorem Fr.below {S : Nat → Prop} {w w' : World} (h : Fr S w w') {B : Nat} (hB : B ≤ w.heap.size) (hS : ∀ k, S k → B ≤ k) : Below B w w' :=
 ⟨h.os, h.tape, h.output, h.size, fun k hk => h.block k (by omega) (fun g => by have := hS k g; omega)⟩
theorem heap_setCell_other (w : World) (a : Addr) (v : Value) (g : Nat) (h : a.block ≠ g) : (w.setCell a v).heap[g]? = w.heap[g]? := by
 simp [World.setCell, Array.getElem?_modify, h]
theorem heap_setRow_other (w : World) (b : Nat) (cs : Array Value) (g : Nat) (h : b ≠ g) : (w.setRow b cs).heap[g]? = w.heap[g]? := by
 simp [World.setRow, Array.getElem?_modify, h]
theorem two_set0 {w : World} {R : Nat} {x y : Value} {t : TypeId} {f : Nat × Nat} (h : w.heap[R]? = some (.cells #[x, y] t f)) (v : Value) : (w.setCell ⟨R, 0, none⟩ v).heap[R]? = some (.cells #[v, y] t f) := by
 simp [World.setCell, Array.getElem?_modify, h]
theorem two_set1 {w : World} {R : Nat} {x y : Value} {t : TypeId} {f : Nat × Nat} (h : w.heap[R]? = some (.cells #[x, y] t f)) (v : Value) : (w.setCell ⟨R, 1, none⟩ v).heap[R]? = some (.cells #[x, v] t f) := by
 simp [World.setCell, Array.getElem?_modify, h]
abbrev isR (R : Nat) : Nat → Prop := fun k => k = R
theorem fr_set {w : World} {R o : Nat} (v : Value) : Fr (isR R) w (w.setCell ⟨R, o, none⟩ v) :=
 ⟨rfl, rfl, rfl, by simp, fun k _ hk => heap_setCell_other _ _ _ _ (fun e => hk e.symm)⟩
theorem heap_last0 (w : World) (o : Obj) : (w.alloc o).heap[w.heap.size]? = some o := by show (w.heap.push o)[w.heap.size]? = some o; simp
theorem heap_last1 (w : World) (o p : Obj) : ((w.alloc o).alloc p).heap[w.heap.size + 1]? = some p := by
 have := heap_last0 (w.alloc o) p
 rwa [show (w.alloc o).heap.size = w.heap.size + 1 by simp] at this
theorem pA (a : Act) (i : Tmp) (v : Value) : a.put (some i) v = { a with tmps := a.tmps.setIfInBounds i v } := rfl
theorem pE (a : Act) (v : Value) : a.put none v = a := rfl
theorem pB {α : Type} (l : List α) (i : Nat) (a : α) : l.toArray.setIfInBounds i a = (l.set i a).toArray := List.setIfInBounds_toArray l i a
theorem pC {α : Type} (a b : α) (l : List α) : (a :: l).set 0 b = b :: l := rfl
theorem pD {α : Type} (a b : α) (l : List α) (n : Nat) : (a :: l).set (n + 1) b = a :: l.set n b := rfl
end Go.Proofs.YtkklcpmbgfgcmaaGreat
