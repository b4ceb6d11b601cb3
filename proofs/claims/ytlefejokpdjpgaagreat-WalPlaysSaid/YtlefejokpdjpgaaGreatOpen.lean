/- Slices, bytes, numbers that came in as arguments, out of their readings. Conditions: none. -/
import Derived.Test.YtlefejokpdjpgaaGreatRest
import Derived.Test.YtlefejokpdjpgaaGreatCel
import Derived.ProofKit
import Derived.Deep.Slices
import Derived.OpenShut
import Derived.Test.YtlefejokpdjpgaaGreatKit
import Derived.Maps.RangeWalk
import Derived.DeepKeys4
import Derived.WideKeyEntry
import Derived.Test.YtlefejokpdjpgaaGreatDot
import Derived.Test.YtlefejokpdjpgaaGreatEvent
import Derived.Test.YtlefejokpdjpgaaGreatLoad
import Derived.Test.YtlefejokpdjpgaaGreatEvs
set_option linter.unusedSimpArgs false
set_option linter.unusedVariables false
set_option linter.unnecessarySimpa false
set_option maxHeartbeats 16000000
set_option maxRecDepth 100000
namespace Go.Proofs.YtlefejokpdjpgaaGreat
open Go.ChangeShapes Go.WideShapes Go.ChangeAt Go.RowKit
section
variable {H : Type} {enc : TypeId × Value → H} {P : Program} {w : World} {base : Nat} {spare : Nat → Bool} {held : Bool}
/-- one field of a struct, read by itself -/
theorem aB {t : TypeId} {fs : Array Field} {fuel : Nat} {cs : List Value} {x : DataW H × List MemPlace} (ht : P.underlying t = some (.struct fs)) (h : DataW.trod enc P w base spare held fuel t cs = some x)
 (i : Nat) (f : Field) (hf : fs[i]? = some f) (n : Nat) (hn : P.cellsOf f.type = n) (sub : List Value) (hsub : (cs.drop f.offset).take n = sub) :
 ∃ y m, DataW.trod enc P w base spare held m f.type sub = some y := by
 obtain ⟨xs, n', _, hx, _, hlen, hfs⟩ := DataW.trod_struct ht h
 have h1 := hfs i f hf
 have hi : i < xs.length := by
  rw [hlen]
  exact (Array.getElem?_eq_some_iff.1 hf).1
 rw [List.getElem?_eq_getElem hi, hn, hsub] at h1
 exact ⟨_, _, h1⟩
theorem kF {α : Type} {R : Nat → α → Prop} : ∀ (n : Nat), (∀ i, i < n → ∃ x, R i x) → ∃ l : List α, l.length = n ∧ ∀ i (hi : i < l.length), R i l[i]
 | 0, _ => ⟨[], rfl, fun i hi => by simp at hi⟩
 | n + 1, h => by
   obtain ⟨l, hl, hr⟩ := kF n (fun i hi => h i (by omega))
   obtain ⟨x, hx⟩ := h n (by omega)
   refine ⟨l ++ [x], by simp [hl], fun i hi => ?_⟩
   by_cases hin : i < l.length
   ·rw [List.getElem_append_left hin]; exact hr i hin
   ·have : i = n := by simp at hi; omega
    subst this
    rw [List.getElem_append_right (by omega)]
    simpa [hl] using hx
theorem cells3 {a : Addr} {cs : List Value} (h : w.cells? base a 3 = some cs) : ∃ c0 c1 c2 b off, cs = [c0, c1, c2] ∧ a = ⟨b, off, none⟩ ∧ w.cell? ⟨b, off, none⟩ = some c0 ∧ w.cell? ⟨b, off + 1, none⟩ = some c1 ∧ w.cell? ⟨b, off + 2, none⟩ = some c2 := by
 obtain ⟨hb, hl, hc⟩ := World.cells?_some h
 match cs, hl with
 | [c0, c1, c2], _ =>
   have h0 := hc 0 (by simp)
   have h1 := hc 1 (by simp)
   have h2 := hc 2 (by simp)
   obtain ⟨b, off, spot⟩ := a
   have hs : spot = none := by simpa [Addr.add] using World.cell?_spot h0
   subst hs
   rw [Go.WideShapes.add_plain] at h0 h1 h2
   exact ⟨c0, c1, c2, b, off, rfl, rfl, by simpa using h0, by simpa using h1, by simpa using h2⟩
end
/-- a number of Go's type int -/
def iP (n : Int) : Prop := -9223372036854775808 ≤ n ∧ n ≤ 9223372036854775807
theorem uZ {n : Int} (h : (Lit.int .i64 n).wf = true) : iP n := by
 exact bounds_i64 h
section
variable {H : Type} {enc : TypeId × Value → H} {w : World} {base : Nat} {spare : Nat → Bool} {held : Bool}
theorem jZ {a : Addr} {n : Nat} {cs : List Value} (h : w.cells? base a n = some cs) (hn : 0 < n) : ∃ b off, a = ⟨b, off, none⟩ ∧ cs.length = n ∧ w.rangeAt b off cs := by
 obtain ⟨hb, hl, hc⟩ := World.cells?_some h
 have h0 := hc 0 (by omega)
 rw [List.getElem?_eq_getElem (by omega)] at h0
 obtain ⟨b, off, spot⟩ := a
 have hs : spot = none := by simpa [Addr.add] using World.cell?_spot h0
 subst hs
 refine ⟨b, off, rfl, hl, fun j v hv => ?_⟩
 have hj := (List.getElem?_eq_some_iff.1 hv).1
 have h1 := hc j (by omega)
 rw [Go.WideShapes.add_plain] at h1
 rw [h1]; exact hv
/-- a slice's elements, n cells each: where they lie -/
theorem rV {a : Addr} {n len : Nat} (hn : 0 < n) {R : Nat → List Value → Prop} (hel : ∀ i, i < len → ∃ cs, w.cells? base (a.add (i * n)) n = some cs ∧ R i cs) :
 len = 0 ∨ ∃ A off, a = ⟨A, off, none⟩ ∧ ∀ i, i < len → ∃ cs, cs.length = n ∧ w.rangeAt A (off + i * n) cs ∧ R i cs := by
 rcases Nat.eq_zero_or_pos len with h0 | h0
 ·exact Or.inl h0
 ·right
  obtain ⟨A, off, spot⟩ := a
  obtain ⟨cs0, hc0, _⟩ := hel 0 h0
  obtain ⟨b', off', hab, _⟩ := jZ hc0 hn
  have hs : spot = none := by simp [Addr.add] at hab; exact hab.2.2
  subst hs
  refine ⟨A, off, rfl, fun i hi => ?_⟩
  obtain ⟨cs, hc, hR⟩ := hel i hi
  obtain ⟨b', off', hab, hl, hr⟩ := jZ hc hn
  rw [Go.WideShapes.add_plain] at hab
  simp only [Addr.mk.injEq, and_true] at hab
  obtain ⟨rfl, rfl⟩ := hab
  exact ⟨cs, hl, hr, hR⟩
theorem open_bytes {fuel : Nat} {cs : List Value} {x : DataW H × List MemPlace} (h : DataW.trod enc Tryz.prog w 0 spare held fuel 65 cs = some x) :
 ∃ (a : Option Addr) (l : Bytes) (cap : Nat), cs = [.slice a l.length cap] ∧ BytesIn w a l ∧ l.length ≤ maxLen ∧ l.length ≤ cap ∧ (∀ A off, a = some ⟨A, off, none⟩ → l ≠ [] → A < w.heap.size) := by
 rcases Deep.open_slice Tryz.underlying65 h with ⟨rfl, _⟩ | ⟨a, len, cap, m, n, D, Pl, rfl, _, hl, hm, hmm, _, hel⟩
 ·exact ⟨none, [], 0, rfl, Or.inl rfl, Nat.zero_le _, Nat.le_refl _, fun _ _ h => by cases h⟩
 have hlm : len ≤ m := by rw [hmm]; split <;> omega
 have hc1 : Tryz.prog.cellsOf 5 = 1 := by kernel_rfl
 rw [hc1] at hel
 have hrows := rV (a := a) (n := 1) (len := len) (by decide) (R := fun i cs => ∃ c : UInt8, cs = [.int .u8 c.toNat]) (fun i hi => by
  obtain ⟨cs', hcs, ht⟩ := hel i (by omega)
  refine ⟨cs', hcs, ?_⟩
  obtain ⟨x0, e0, _, w0⟩ := DataW.trod_int Tryz.underlying5 ht
  subst e0
  have hb := bounds_u8 w0
  exact ⟨UInt8.ofNat x0.toNat, by rw [UInt8.toNat_ofNat']; congr 2; omega⟩)
 rcases hrows with h0 | ⟨A, off, rfl, hr⟩
 ·subst h0
  exact ⟨some a, [], cap, rfl, Or.inl rfl, Nat.zero_le _, Nat.zero_le _, fun _ _ _ h => absurd rfl h⟩
 ·obtain ⟨l, hll, hlr⟩ := kF (R := fun i (c : UInt8) => w.cell? ⟨A, off + i, none⟩ = some (.int .u8 c.toNat)) len (fun i hi => by
   obtain ⟨cs', _, hrg, c, rfl⟩ := hr i hi
   exact ⟨c, by have := hrg 0 _ rfl; rwa [Nat.mul_one, Nat.add_zero] at this⟩)
  subst hll
  refine ⟨_, l, cap, rfl, Or.inr ⟨A, off, rfl, hlr⟩, by omega, hl, fun A' off' he hne => ?_⟩
  cases he
  exact World.block_lt_of_cell? w _ (hlr 0 (List.length_pos_iff.2 hne))
theorem kT {α : Type} {A : Nat} (f : α → List Value) (n : Nat) : ∀ (l : List α) (off : Nat), (∀ i (hi : i < l.length), (f l[i]).length = n ∧ w.rangeAt A (off + i * n) (f l[i])) → w.rangeAt A off (l.flatMap f)
 | [], off, _ => fun j v hv => by simp at hv
 | x :: r, off, h => by
   have h0 := h 0 (by simp)
   simp only [List.getElem_cons_zero, Nat.zero_mul, Nat.add_zero] at h0
   have ih := kT f n r (off + n) fun i hi => by
     have := h (i + 1) (by simp; omega)
     simp only [List.getElem_cons_succ] at this
     rw [show off + n + i * n = off + (i + 1) * n by rw [Nat.add_mul]; omega]
     exact this
   intro j v hv
   rw [List.flatMap_cons] at hv
   by_cases hj : j < (f x).length
   ·rw [List.getElem?_append_left hj] at hv
    exact h0.2 j v hv
   ·rw [List.getElem?_append_right (by omega), h0.1] at hv
    have := ih (j - n) v hv
    rwa [show off + n + (j - n) = off + j by omega] at this
/-- a slice of structs, out of its reading: f: an element's cells -/
theorem open_list {α : Type} (T E : TypeId) (hT : Tryz.prog.underlying T = some (.slice E)) (n : Nat) (hn : 0 < n) (hc : Tryz.prog.cellsOf E = n) (f : α → List Value) (Pr : α → Prop)
 (hE : ∀ m cs x, cs.length = n → DataW.trod enc Tryz.prog w 0 spare held m E cs = some x → ∃ y, cs = f y ∧ Pr y) {fuel : Nat} {cs : List Value} {x : DataW H × List MemPlace} (h : DataW.trod enc Tryz.prog w 0 spare held fuel T cs = some x) :
 ∃ (a : Option Addr) (l : List α) (cap : Nat), cs = [.slice a l.length cap] ∧ CellsIn w a (l.flatMap f) ∧ (∀ y ∈ l, Pr y) ∧ l.length ≤ maxLen ∧ l.length ≤ cap := by
 rcases Deep.open_slice hT h with ⟨rfl, _⟩ | ⟨a, len, cap, m, k, D, Pl, rfl, _, hl, hm, hmm, _, hel⟩
 ·exact ⟨none, [], 0, rfl, Or.inl rfl, fun y hy => (nomatch hy), Nat.zero_le _, Nat.le_refl _⟩
 have hlm : len ≤ m := by rw [hmm]; split <;> omega
 rw [hc] at hel
 have hrows := rV (a := a) (n := n) (len := len) hn (R := fun i cs => ∃ y, cs = f y ∧ Pr y) (fun i hi => by
  obtain ⟨cs', hcs, ht⟩ := hel i (by omega)
  obtain ⟨_, hlen, _⟩ := World.cells?_some hcs
  exact ⟨cs', hcs, hE _ _ _ hlen ht⟩)
 rcases hrows with h0 | ⟨A, off, rfl, hr⟩
 ·subst h0
  exact ⟨some a, [], cap, rfl, Or.inl rfl, fun y hy => (nomatch hy), Nat.zero_le _, Nat.zero_le _⟩
 ·obtain ⟨l, hll, hlr⟩ := kF (R := fun i (y : α) => (f y).length = n ∧ w.rangeAt A (off + i * n) (f y) ∧ Pr y) len (fun i hi => by
   obtain ⟨cs', hlen, hrg, y, rfl, hp⟩ := hr i hi
   exact ⟨y, hlen, hrg, hp⟩)
  subst hll
  refine ⟨some ⟨A, off, none⟩, l, cap, rfl, Or.inr ⟨A, off, rfl, ?_⟩, fun y hy => ?_, by omega, hl⟩
  ·exact kT f n l off fun i hi => ⟨(hlr i hi).1, (hlr i hi).2.1⟩
  ·obtain ⟨i, hi, rfl⟩ := List.getElem_of_mem hy
   exact (hlr i hi).2.2
end
end Go.Proofs.YtlefejokpdjpgaaGreat
/- Maps in memory, told by a list of their entries. Conditions: none. -/
namespace Go.Proofs.YtlefejokpdjpgaaGreat
open Go.RowKit
open Go.Maps (Keyed)
/-- an element reads as itself -/
def xm (v : Value) : Option (DataW Value × List MemPlace) := some (.held v, [])
/-- a key's literal -/
noncomputable def klit (P : Program) (k : TypeId) (v : Value) : Lit := (keyOf P k v).getD (.bool true)
/-- a kind of keys: how they are written, and which may be -/
structure Kind (P : Program) (k : TypeId) {α : Type} (kv : α → Value) (ok : α → Prop) : Prop where
 law : Keyed P k
 inj : ∀ x y, kv x = kv y → x = y
 key : ∀ x, ok x → ∃ l, keyOf P k (kv x) = some l
section
variable {P : Program} {k : TypeId} {α β : Type} {kv : α → Value} {ok : α → Prop} {vv : β → Value}
theorem Kind.lit (K : Kind P k kv ok) {x : α} (h : ok x) : keyOf P k (kv x) = some (klit P k (kv x)) := by
 obtain ⟨l, hl⟩ := K.key x h
 simp [klit, hl]
/-- a datum that holds just the entries m -/
structure TabD (P : Program) (k : TypeId) (kv : α → Value) (ok : α → Prop) (vv : β → Value) (D : DataW Value) (m : List (α × β)) : Prop where
 hit : ∀ p ∈ m, ∀ z, D.atKey (klit P k (kv p.1)) z = .held (vv p.2)
 has : ∀ l, Maps.has D l = m.any fun p => (klit P k (kv p.1)).sameKey l
 size : Maps.size D = m.length
 okk : ∀ p ∈ m, ok p.1
 apart : m.Pairwise fun p q => p.1 ≠ q.1
/-- block b holds a map with just the entries m -/
def Tab (P : Program) (k : TypeId) (kv : α → Value) (ok : α → Prop) (vv : β → Value) (w : World) (b : Nat) (m : List (α × β)) : Prop :=
 ∃ D, w.ownsMap P k xm b m.length D ∧ TabD P k kv ok vv D m
theorem TabD.perm {D : DataW Value} {m m' : List (α × β)} (h : TabD P k kv ok vv D m) (hp : m.Perm m') : TabD P k kv ok vv D m' :=
 ⟨fun p hp' z => h.hit p (hp.mem_iff.2 hp') z, fun l => by rw [h.has]; exact hp.any_eq, by rw [h.size, hp.length_eq], fun p hp' => h.okk p (hp.mem_iff.2 hp'),
  (hp.pairwise_iff (fun {_ _} hne => Ne.symm hne)).1 h.apart⟩
theorem Tab.perm {w : World} {b : Nat} {m m' : List (α × β)} (h : Tab P k kv ok vv w b m) (hp : m.Perm m') : Tab P k kv ok vv w b m' := by
 obtain ⟨D, h1, h2⟩ := h
 exact ⟨D, by rw [← hp.length_eq]; exact h1, h2.perm hp⟩
theorem Tab.okk {w : World} {b : Nat} {m : List (α × β)} (h : Tab P k kv ok vv w b m) : ∀ p ∈ m, ok p.1 := by
 obtain ⟨D, h1, h2⟩ := h
 exact h2.okk
theorem Tab.apart {w : World} {b : Nat} {m : List (α × β)} (h : Tab P k kv ok vv w b m) : m.Pairwise fun p q => p.1 ≠ q.1 := by
 obtain ⟨D, h1, h2⟩ := h
 exact h2.apart
theorem Tab.lt {w : World} {b : Nat} {m : List (α × β)} (h : Tab P k kv ok vv w b m) : b < w.heap.size := by
 obtain ⟨D, h1, h2⟩ := h
 exact h1.lt
theorem owns_block {H : Type} {R : Value → Option (DataW H × List MemPlace)} {w w' : World} {b n : Nat} {D : DataW H} (h : w.ownsMap P k R b n D) (hb : w'.heap[b]? = w.heap[b]?) : w'.ownsMap P k R b n D := by
 obtain ⟨es, clock, h1, h2⟩ := h
 exact ⟨es, clock, hb.trans h1, h2⟩
theorem Tab.block {w w' : World} {b : Nat} {m : List (α × β)} (h : Tab P k kv ok vv w b m) (hb : w'.heap[b]? = w.heap[b]?) : Tab P k kv ok vv w' b m := by
 obtain ⟨D, h1, h2⟩ := h
 exact ⟨D, owns_block h1 hb, h2⟩
theorem Tab.kept {w w' : World} {b : Nat} {m : List (α × β)} (h : Tab P k kv ok vv w b m) (hb : Below w.heap.size w w') : Tab P k kv ok vv w' b m := h.block (hb.block b h.lt)
theorem Tab.fr {S : Nat → Prop} {w w' : World} {b : Nat} {m : List (α × β)} (h : Tab P k kv ok vv w b m) (hf : Fr S w w') (hb : ¬ S b) : Tab P k kv ok vv w' b m := h.block (hf.block b h.lt hb)
theorem Tab.made (w : World) : Tab P k kv ok vv (w.alloc (.map #[] 0)) w.heap.size ([] : List (α × β)) :=
 ⟨.map [], World.ownsMap_made w P k xm, ⟨by simp, fun l => rfl, rfl, by simp, List.Pairwise.nil⟩⟩
/-! ### look-ups -/
theorem Tab.len {w : World} {b : Nat} {m : List (α × β)} (h : Tab P k kv ok vv w b m) {t e : TypeId} (ht : P.underlying t = some (.map k e)) (ty : TypeId) :
 (Builtin.len_ #[t] ty #[.map (some b)]).run P w = .ok (.int .i64 m.length) w := by
 obtain ⟨D, h1, h2⟩ := h
 rw [h1.len ht ty, h2.size]
/-! ### stores -/
/-! ### deletions -/
/-! ### ranging -/
/-- block r ranges over the map in block b; rest: what is still to come -/
def TabIt (P : Program) (k : TypeId) (kv : α → Value) (ok : α → Prop) (vv : β → Value) (w : World) (b r : Nat) (m rest : List (α × β)) (cnt : Nat) : Prop :=
 ∃ D left, w.ranges P k xm b r m.length D left cnt ∧ TabD P k kv ok vv D m ∧ (∀ l, left l = rest.any fun p => (klit P k (kv p.1)).sameKey l) ∧ (∀ p ∈ rest, p ∈ m) ∧ rest.Pairwise fun p q => p.1 ≠ q.1
theorem TabIt.tab {w : World} {b r cnt : Nat} {m rest : List (α × β)} (h : TabIt P k kv ok vv w b r m rest cnt) : Tab P k kv ok vv w b m := by
 obtain ⟨D, left, h1, h2, _⟩ := h
 exact ⟨D, h1.owns, h2⟩
theorem TabIt.lt {w : World} {b r cnt : Nat} {m rest : List (α × β)} (h : TabIt P k kv ok vv w b r m rest cnt) : r < w.heap.size := by
 obtain ⟨D, left, h1, h2, _⟩ := h
 exact h1.lt
theorem TabIt.block {w w' : World} {b r cnt : Nat} {m rest : List (α × β)} (h : TabIt P k kv ok vv w b r m rest cnt) (hb : w'.heap[b]? = w.heap[b]?) (hr : w'.heap[r]? = w.heap[r]?) : TabIt P k kv ok vv w' b r m rest cnt := by
 obtain ⟨D, left, ⟨es, clock, since, seen, c0, h1, h2, h3, h4, h5, h6⟩, hh⟩ := h
 exact ⟨D, left, ⟨es, clock, since, seen, c0, hb.trans h1, h2, h3, h4, hr.trans h5, h6⟩, hh⟩
theorem TabIt.kept {w w' : World} {b r cnt : Nat} {m rest : List (α × β)} (h : TabIt P k kv ok vv w b r m rest cnt) (hb : Below w.heap.size w w') : TabIt P k kv ok vv w' b r m rest cnt := h.block (hb.block b h.tab.lt) (hb.block r h.lt)
theorem TabIt.fr {S : Nat → Prop} {w w' : World} {b r cnt : Nat} {m rest : List (α × β)} (h : TabIt P k kv ok vv w b r m rest cnt) (hf : Fr S w w') (h1 : ¬ S b) (h2 : ¬ S r) : TabIt P k kv ok vv w' b r m rest cnt :=
 h.block (hf.block b h.tab.lt h1) (hf.block r h.lt h2)
variable {ops : Array Oper} {rest0 : List Oper} {o : Oper} {a : Act} {Q : Exit → Act → World → Prop}
end
end Go.Proofs.YtlefejokpdjpgaaGreat
/- 'm[k]++' on a map that is told by its entries: the entry made ahead of the store. Conditions: none. -/
namespace Go.Proofs.YtlefejokpdjpgaaGreat
open Go.RowKit
open Go.ChangeMaps Go.MapKept
open Go.WideElems
open Go.Maps (Keyed)
section
variable {H : Type} {P : Program} {w : World} {t k e : TypeId} {R : Value → Option (DataW H × List MemPlace)} {b n : Nat} {D : DataW H}
end
end Go.Proofs.YtlefejokpdjpgaaGreat
/- Actors, dots and keys as keys of maps. Conditions: none. -/
namespace Go.Proofs.YtlefejokpdjpgaaGreat
open Go.RowKit
section
variable {H : Type} {enc : TypeId × Value → H} {P : Program} {w : World} {base : Nat} {spare : Nat → Bool} {held : Bool}
theorem xq {α : Type} {cs : List α} (h : cs.length = 19) : ∃ c0 c1 c2 c3 c4 c5 c6 c7 c8 c9 c10 c11 c12 c13 c14 c15 c16 c17 c18, cs = [c0, c1, c2, c3, c4, c5, c6, c7, c8, c9, c10, c11, c12, c13, c14, c15, c16, c17, c18] := by
 match cs, h with
 | [c0, c1, c2, c3, c4, c5, c6, c7, c8, c9, c10, c11, c12, c13, c14, c15, c16, c17, c18], _ => exact ⟨c0, c1, c2, c3, c4, c5, c6, c7, c8, c9, c10, c11, c12, c13, c14, c15, c16, c17, c18, rfl⟩
end
/-- what any event that comes in has: no text and no list too long for the machine, each number one of Go's -/
structure EvIn (w : World) (a : Option Addr) (cap : Nat) (e : Ev) : Prop where
 dots : DotsIn w a e.over
 over : e.over.length ≤ maxLen
 name : e.key.name.size ≤ maxLen
 domain : e.key.domain.size ≤ maxLen
 path : e.key.path.size ≤ maxLen
 value : e.ck.value.size ≤ maxLen
 nil : a = none → e.over = [] ∧ cap = 0
 old : ∀ A off, a = some ⟨A, off, none⟩ → e.over ≠ [] → A < w.heap.size
section
variable {H : Type} {enc : TypeId × Value → H} {w : World} {spare : Nat → Bool} {held : Bool}
theorem tY {fuel : Nat} {cs : List Value} {x : DataW H × List MemPlace} (h : DataW.trod enc Tryz.prog w 0 spare held fuel 37 cs = some x) :
 ∃ (a : Option Addr) (l : List Dot) (cap : Nat), cs = [.slice a l.length cap] ∧ DotsIn w a l ∧ l.length ≤ maxLen ∧ (a = none → l = [] ∧ cap = 0) := by
 rcases Deep.open_slice Tryz.underlying37 h with ⟨rfl, _⟩ | ⟨a, len, cap, m, n, D, Pl, rfl, _, hl, hm, hmm, _, hel⟩
 ·exact ⟨none, [], 0, rfl, Or.inl rfl, Nat.zero_le _, fun _ => ⟨rfl, rfl⟩⟩
 have hlm : len ≤ m := by rw [hmm]; split <;> omega
 have hc3 : Tryz.prog.cellsOf 30 = 3 := by kernel_rfl
 rw [hc3] at hel
 obtain ⟨l, hll, hr⟩ := kF (R := fun i (d : Dot) => ∃ b off, a.add (i * 3) = ⟨b, off, none⟩ ∧ w.cell? ⟨b, off, none⟩ = some (.int .i64 d.a.dev) ∧ w.cell? ⟨b, off + 1, none⟩ = some (.int .i64 d.a.inc) ∧ w.cell? ⟨b, off + 2, none⟩ = some (.int .i64 d.seq)) len (fun i hi => by
  obtain ⟨cs', hcs, ht⟩ := hel i (by omega)
  obtain ⟨c0, c1, c2, b, off, rfl, hab, h0, h1, h2⟩ := cells3 hcs
  obtain ⟨_, _, hA⟩ := aB Tryz.underlying30 ht 0 _ rfl 2 (by kernel_rfl) [c0, c1] rfl
  obtain ⟨_, _, hS⟩ := aB Tryz.underlying30 ht 1 _ rfl 1 (by kernel_rfl) [c2] rfl
  obtain ⟨_, _, hD⟩ := aB Tryz.underlying28 hA 0 _ rfl 1 (by kernel_rfl) [c0] rfl
  obtain ⟨_, _, hI⟩ := aB Tryz.underlying28 hA 1 _ rfl 1 (by kernel_rfl) [c1] rfl
  obtain ⟨x0, e0, _, w0⟩ := DataW.trod_int Tryz.underlying3 hD
  obtain ⟨x1, e1, _, w1⟩ := DataW.trod_int Tryz.underlying3 hI
  obtain ⟨x2, e2, _, w2⟩ := DataW.trod_int Tryz.underlying3 hS
  simp only [List.cons.injEq, and_true] at e0 e1 e2
  subst e0 e1 e2
  exact ⟨⟨⟨x0, x1⟩, x2⟩, b, off, hab, h0, h1, h2⟩)
 subst hll
 refine ⟨some a, l, cap, rfl, ?_, by omega, fun h => by cases h⟩
 rcases Nat.eq_zero_or_pos l.length with h0 | h0
 ·exact Or.inl (List.length_eq_zero_iff.1 h0)
 ·right
  obtain ⟨b, off, spot⟩ := a
  obtain ⟨b', off', hab, _⟩ := hr 0 h0
  have hs : spot = none := by simp [Addr.add] at hab; exact hab.2.2
  subst hs
  refine ⟨b, off, rfl, ⟨fun i hi => ?_, fun i hi => ?_, fun i hi => ?_⟩⟩ <;>
  ·obtain ⟨b', off', hab, g0, g1, g2⟩ := hr i hi
   rw [Go.WideShapes.add_plain] at hab
   simp only [Addr.mk.injEq, and_true] at hab
   obtain ⟨rfl, rfl⟩ := hab
   assumption
end
section
variable {H : Type} {enc : TypeId × Value → H} {w : World} {base : Nat} {spare : Nat → Bool} {held : Bool}
theorem vY {fuel : Nat} {cs : List Value} {x : DataW H × List MemPlace} (hsz : cs.length = 19) (hf : DataW.trod enc Tryz.prog w 0 spare held fuel 39 cs = some x) :
 ∃ (e : Ev) (a : Option Addr) (cap : Nat), cs = evCells e a cap ∧ EvIn w a cap e := by
 obtain ⟨c0, c1, c2, c3, c4, c5, c6, c7, c8, c9, c10, c11, c12, c13, c14, c15, c16, c17, c18, rfl⟩ := xq hsz
 obtain ⟨_, _, hD⟩ := aB Tryz.underlying39 hf 0 _ rfl 3 (by kernel_rfl) [c0, c1, c2] rfl
 obtain ⟨_, _, hS⟩ := aB Tryz.underlying39 hf 1 _ rfl 3 (by kernel_rfl) [c3, c4, c5] rfl
 obtain ⟨_, _, hK⟩ := aB Tryz.underlying39 hf 2 _ rfl 1 (by kernel_rfl) [c6] rfl
 obtain ⟨_, _, hY⟩ := aB Tryz.underlying39 hf 3 _ rfl 3 (by kernel_rfl) [c7, c8, c9] rfl
 obtain ⟨_, _, hC⟩ := aB Tryz.underlying39 hf 4 _ rfl 8 (by kernel_rfl) [c10, c11, c12, c13, c14, c15, c16, c17] rfl
 obtain ⟨_, _, hO⟩ := aB Tryz.underlying39 hf 5 _ rfl 1 (by kernel_rfl) [c18] rfl
 obtain ⟨_, _, hA⟩ := aB Tryz.underlying30 hD 0 _ rfl 2 (by kernel_rfl) [c0, c1] rfl
 obtain ⟨_, _, h0⟩ := aB Tryz.underlying28 hA 0 _ rfl 1 (by kernel_rfl) [c0] rfl
 obtain ⟨x0, e0, _, w0⟩ := DataW.trod_int Tryz.underlying3 h0
 obtain ⟨_, _, h1⟩ := aB Tryz.underlying28 hA 1 _ rfl 1 (by kernel_rfl) [c1] rfl
 obtain ⟨x1, e1, _, w1⟩ := DataW.trod_int Tryz.underlying3 h1
 obtain ⟨_, _, h2⟩ := aB Tryz.underlying30 hD 1 _ rfl 1 (by kernel_rfl) [c2] rfl
 obtain ⟨x2, e2, _, w2⟩ := DataW.trod_int Tryz.underlying3 h2
 obtain ⟨_, _, h3⟩ := aB Tryz.underlying32 hS 0 _ rfl 1 (by kernel_rfl) [c3] rfl
 obtain ⟨x3, e3, _, w3⟩ := DataW.trod_int Tryz.underlying3 h3
 obtain ⟨_, _, h4⟩ := aB Tryz.underlying32 hS 1 _ rfl 1 (by kernel_rfl) [c4] rfl
 obtain ⟨x4, e4, _, w4⟩ := DataW.trod_int Tryz.underlying3 h4
 obtain ⟨_, _, h5⟩ := aB Tryz.underlying32 hS 2 _ rfl 1 (by kernel_rfl) [c5] rfl
 obtain ⟨x5, e5, _, w5⟩ := DataW.trod_int Tryz.underlying3 h5
 obtain ⟨x6, e6, _, w6⟩ := DataW.trod_int Tryz.underlying3 hK
 obtain ⟨_, _, h7⟩ := aB Tryz.underlying34 hY 0 _ rfl 1 (by kernel_rfl) [c7] rfl
 obtain ⟨x7, e7, _, w7⟩ := DataW.trod_string Tryz.underlying9 h7
 obtain ⟨_, _, h8⟩ := aB Tryz.underlying34 hY 1 _ rfl 1 (by kernel_rfl) [c8] rfl
 obtain ⟨x8, e8, _, w8⟩ := DataW.trod_string Tryz.underlying9 h8
 obtain ⟨_, _, h9⟩ := aB Tryz.underlying34 hY 2 _ rfl 1 (by kernel_rfl) [c9] rfl
 obtain ⟨x9, e9, _, w9⟩ := DataW.trod_string Tryz.underlying9 h9
 obtain ⟨_, _, h10⟩ := aB Tryz.underlying36 hC 0 _ rfl 1 (by kernel_rfl) [c10] rfl
 obtain ⟨x10, e10, _, w10⟩ := DataW.trod_string Tryz.underlying9 h10
 obtain ⟨_, _, h11⟩ := aB Tryz.underlying36 hC 1 _ rfl 1 (by kernel_rfl) [c11] rfl
 obtain ⟨x11, e11, _⟩ := DataW.trod_bool Tryz.underlying4 h11
 obtain ⟨_, _, h12⟩ := aB Tryz.underlying36 hC 2 _ rfl 1 (by kernel_rfl) [c12] rfl
 obtain ⟨x12, e12, _⟩ := DataW.trod_bool Tryz.underlying4 h12
 obtain ⟨_, _, h13⟩ := aB Tryz.underlying36 hC 3 _ rfl 1 (by kernel_rfl) [c13] rfl
 obtain ⟨x13, e13, _⟩ := DataW.trod_bool Tryz.underlying4 h13
 obtain ⟨_, _, h14⟩ := aB Tryz.underlying36 hC 4 _ rfl 1 (by kernel_rfl) [c14] rfl
 obtain ⟨x14, e14, _⟩ := DataW.trod_bool Tryz.underlying4 h14
 obtain ⟨_, _, h15⟩ := aB Tryz.underlying36 hC 5 _ rfl 1 (by kernel_rfl) [c15] rfl
 obtain ⟨x15, e15, _, w15⟩ := DataW.trod_int Tryz.underlying3 h15
 obtain ⟨_, _, h16⟩ := aB Tryz.underlying36 hC 6 _ rfl 1 (by kernel_rfl) [c16] rfl
 obtain ⟨x16, e16, _, w16⟩ := DataW.trod_int Tryz.underlying3 h16
 obtain ⟨_, _, h17⟩ := aB Tryz.underlying36 hC 7 _ rfl 1 (by kernel_rfl) [c17] rfl
 obtain ⟨x17, e17, _, w17⟩ := DataW.trod_int Tryz.underlying3 h17
 obtain ⟨a, l, cap, e18, wZ, hlen, hnil⟩ := tY hO
 simp only [List.cons.injEq, and_true] at e0
 subst e0
 simp only [List.cons.injEq, and_true] at e1
 subst e1
 simp only [List.cons.injEq, and_true] at e2
 subst e2
 simp only [List.cons.injEq, and_true] at e3
 subst e3
 simp only [List.cons.injEq, and_true] at e4
 subst e4
 simp only [List.cons.injEq, and_true] at e5
 subst e5
 simp only [List.cons.injEq, and_true] at e6
 subst e6
 simp only [List.cons.injEq, and_true] at e7
 subst e7
 simp only [List.cons.injEq, and_true] at e8
 subst e8
 simp only [List.cons.injEq, and_true] at e9
 subst e9
 simp only [List.cons.injEq, and_true] at e10
 subst e10
 simp only [List.cons.injEq, and_true] at e11
 subst e11
 simp only [List.cons.injEq, and_true] at e12
 subst e12
 simp only [List.cons.injEq, and_true] at e13
 subst e13
 simp only [List.cons.injEq, and_true] at e14
 subst e14
 simp only [List.cons.injEq, and_true] at e15
 subst e15
 simp only [List.cons.injEq, and_true] at e16
 subst e16
 simp only [List.cons.injEq, and_true] at e17
 subst e17
 simp only [List.cons.injEq, and_true] at e18
 subst e18
 refine ⟨⟨⟨⟨x0, x1⟩, x2⟩, ⟨x3, x4, x5⟩, x6, ⟨x7, x8, x9⟩, ⟨x10, x11, x12, x13, x14, x15, x16, x17⟩, l⟩, a, cap, rfl, ⟨wZ, hlen, w7, w8, w9, w10, hnil, ?_⟩⟩
 intro A off ha hne
 rcases wZ with h | ⟨A', off', ha', hd⟩
 ·exact absurd h hne
 ·rw [ha] at ha'
  cases ha'
  exact World.block_lt_of_cell? w _ (hd.dev 0 (List.length_pos_iff.2 hne))
end
end Go.Proofs.YtlefejokpdjpgaaGreat
/- Lists of events and of marks, and dots, that came in as arguments. Conditions: none. -/
namespace Go.Proofs.YtlefejokpdjpgaaGreat
open Go.RowKit
section
variable {H : Type} {enc : TypeId × Value → H} {w : World} {base : Nat} {spare : Nat → Bool} {held : Bool}
open Go.ChangeShapes Go.WideShapes Go.ChangeAt
end
end Go.Proofs.YtlefejokpdjpgaaGreat
