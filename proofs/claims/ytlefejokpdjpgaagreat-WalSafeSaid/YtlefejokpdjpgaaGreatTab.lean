/- Maps in memory, told by a list of their entries. Conditions: none. -/
import Derived.Test.YtlefejokpdjpgaaGreatKit
import Derived.Maps.RangeWalk
import Derived.DeepKeys4
import Derived.WideKeyEntry
set_option linter.unusedSimpArgs false
set_option linter.unusedVariables false
set_option linter.unnecessarySimpa false
set_option maxHeartbeats 16000000
set_option maxRecDepth 100000
namespace Go.Proofs.YtlefejokpdjpgaaGreat
open Go.RowKit
open Go.Maps (Keyed)
/-- an element reads as itself -/
def rawR (v : Value) : Option (DataW Value × List MemPlace) := some (.held v, [])
/-- a key's literal -/
noncomputable def klit (P : Program) (k : TypeId) (v : Value) : Lit := (keyOf P k v).getD (.bool true)
/-- a kind of keys: how they are written, and which may be -/
structure Kind (P : Program) (k : TypeId) {α : Type} (kv : α → Value) (ok : α → Prop) : Prop where
 law : Keyed P k
 inj : ∀ x y, kv x = kv y → x = y
 key : ∀ x, ok x → ∃ l, keyOf P k (kv x) = some l
section
variable {P : Program} {k : TypeId} {α β : Type} {kv : α → Value} {ok : α → Prop} {vv : β → Value}
theorem Kind.lit (K : Kind P k kv ok) {x : α} (h : ok x) : keyOf P k (kv x) = some (klit P k (kv x)) := by
 obtain ⟨l, hl⟩ := K.key x h
 simp [klit, hl]
/-- a datum that holds just the entries m -/
structure TabD (P : Program) (k : TypeId) (kv : α → Value) (ok : α → Prop) (vv : β → Value) (D : DataW Value) (m : List (α × β)) : Prop where
 hit : ∀ p ∈ m, ∀ z, D.atKey (klit P k (kv p.1)) z = .held (vv p.2)
 has : ∀ l, Maps.has D l = m.any fun p => (klit P k (kv p.1)).sameKey l
 size : Maps.size D = m.length
 okk : ∀ p ∈ m, ok p.1
 apart : m.Pairwise fun p q => p.1 ≠ q.1
/-- block b holds a map with just the entries m -/
def Tab (P : Program) (k : TypeId) (kv : α → Value) (ok : α → Prop) (vv : β → Value) (w : World) (b : Nat) (m : List (α × β)) : Prop :=
 ∃ D, w.ownsMap P k rawR b m.length D ∧ TabD P k kv ok vv D m
theorem TabD.perm {D : DataW Value} {m m' : List (α × β)} (h : TabD P k kv ok vv D m) (hp : m.Perm m') : TabD P k kv ok vv D m' :=
 ⟨fun p hp' z => h.hit p (hp.mem_iff.2 hp') z, fun l => by rw [h.has]; exact hp.any_eq, by rw [h.size, hp.length_eq], fun p hp' => h.okk p (hp.mem_iff.2 hp'),
  (hp.pairwise_iff (fun {_ _} hne => Ne.symm hne)).1 h.apart⟩
theorem Tab.perm {w : World} {b : Nat} {m m' : List (α × β)} (h : Tab P k kv ok vv w b m) (hp : m.Perm m') : Tab P k kv ok vv w b m' := by
 obtain ⟨D, h1, h2⟩ := h
 exact ⟨D, by rw [← hp.length_eq]; exact h1, h2.perm hp⟩
theorem Tab.okk {w : World} {b : Nat} {m : List (α × β)} (h : Tab P k kv ok vv w b m) : ∀ p ∈ m, ok p.1 := by
 obtain ⟨D, h1, h2⟩ := h
 exact h2.okk
theorem Tab.apart {w : World} {b : Nat} {m : List (α × β)} (h : Tab P k kv ok vv w b m) : m.Pairwise fun p q => p.1 ≠ q.1 := by
 obtain ⟨D, h1, h2⟩ := h
 exact h2.apart
theorem Tab.lt {w : World} {b : Nat} {m : List (α × β)} (h : Tab P k kv ok vv w b m) : b < w.heap.size := by
 obtain ⟨D, h1, h2⟩ := h
 exact h1.lt
theorem owns_block {H : Type} {R : Value → Option (DataW H × List MemPlace)} {w w' : World} {b n : Nat} {D : DataW H} (h : w.ownsMap P k R b n D) (hb : w'.heap[b]? = w.heap[b]?) : w'.ownsMap P k R b n D := by
 obtain ⟨es, clock, h1, h2⟩ := h
 exact ⟨es, clock, hb.trans h1, h2⟩
theorem Tab.block {w w' : World} {b : Nat} {m : List (α × β)} (h : Tab P k kv ok vv w b m) (hb : w'.heap[b]? = w.heap[b]?) : Tab P k kv ok vv w' b m := by
 obtain ⟨D, h1, h2⟩ := h
 exact ⟨D, owns_block h1 hb, h2⟩
theorem Tab.kept {w w' : World} {b : Nat} {m : List (α × β)} (h : Tab P k kv ok vv w b m) (hb : Below w.heap.size w w') : Tab P k kv ok vv w' b m := h.block (hb.block b h.lt)
theorem Tab.fr {S : Nat → Prop} {w w' : World} {b : Nat} {m : List (α × β)} (h : Tab P k kv ok vv w b m) (hf : Fr S w w') (hb : ¬ S b) : Tab P k kv ok vv w' b m := h.block (hf.block b h.lt hb)
theorem Tab.made (w : World) : Tab P k kv ok vv (w.alloc (.map #[] 0)) w.heap.size ([] : List (α × β)) :=
 ⟨.map [], World.ownsMap_made w P k rawR, ⟨by simp, fun l => rfl, rfl, by simp, List.Pairwise.nil⟩⟩
/-! ### look-ups -/
theorem Tab.len {w : World} {b : Nat} {m : List (α × β)} (h : Tab P k kv ok vv w b m) {t e : TypeId} (ht : P.underlying t = some (.map k e)) (ty : TypeId) :
 (Builtin.len_ #[t] ty #[.map (some b)]).run P w = .ok (.int .i64 m.length) w := by
 obtain ⟨D, h1, h2⟩ := h
 rw [h1.len ht ty, h2.size]
/-! ### stores -/
/-! ### deletions -/
/-! ### ranging -/
/-- block r ranges over the map in block b; rest: what is still to come -/
def TabIt (P : Program) (k : TypeId) (kv : α → Value) (ok : α → Prop) (vv : β → Value) (w : World) (b r : Nat) (m rest : List (α × β)) (cnt : Nat) : Prop :=
 ∃ D left, w.ranges P k rawR b r m.length D left cnt ∧ TabD P k kv ok vv D m ∧ (∀ l, left l = rest.any fun p => (klit P k (kv p.1)).sameKey l) ∧ (∀ p ∈ rest, p ∈ m) ∧ rest.Pairwise fun p q => p.1 ≠ q.1
theorem TabIt.tab {w : World} {b r cnt : Nat} {m rest : List (α × β)} (h : TabIt P k kv ok vv w b r m rest cnt) : Tab P k kv ok vv w b m := by
 obtain ⟨D, left, h1, h2, _⟩ := h
 exact ⟨D, h1.owns, h2⟩
theorem TabIt.lt {w : World} {b r cnt : Nat} {m rest : List (α × β)} (h : TabIt P k kv ok vv w b r m rest cnt) : r < w.heap.size := by
 obtain ⟨D, left, h1, h2, _⟩ := h
 exact h1.lt
theorem TabIt.block {w w' : World} {b r cnt : Nat} {m rest : List (α × β)} (h : TabIt P k kv ok vv w b r m rest cnt) (hb : w'.heap[b]? = w.heap[b]?) (hr : w'.heap[r]? = w.heap[r]?) : TabIt P k kv ok vv w' b r m rest cnt := by
 obtain ⟨D, left, ⟨es, clock, since, seen, c0, h1, h2, h3, h4, h5, h6⟩, hh⟩ := h
 exact ⟨D, left, ⟨es, clock, since, seen, c0, hb.trans h1, h2, h3, h4, hr.trans h5, h6⟩, hh⟩
theorem TabIt.kept {w w' : World} {b r cnt : Nat} {m rest : List (α × β)} (h : TabIt P k kv ok vv w b r m rest cnt) (hb : Below w.heap.size w w') : TabIt P k kv ok vv w' b r m rest cnt := h.block (hb.block b h.tab.lt) (hb.block r h.lt)
theorem TabIt.fr {S : Nat → Prop} {w w' : World} {b r cnt : Nat} {m rest : List (α × β)} (h : TabIt P k kv ok vv w b r m rest cnt) (hf : Fr S w w') (h1 : ¬ S b) (h2 : ¬ S r) : TabIt P k kv ok vv w' b r m rest cnt :=
 h.block (hf.block b h.tab.lt h1) (hf.block r h.lt h2)
variable {ops : Array Oper} {rest0 : List Oper} {o : Oper} {a : Act} {Q : Exit → Act → World → Prop}
end
open Go.ChangeMaps Go.MapKept
open Go.WideElems
open Go.Maps (Keyed)
section
variable {H : Type} {P : Program} {w : World} {t k e : TypeId} {R : Value → Option (DataW H × List MemPlace)} {b n : Nat} {D : DataW H}
end
end Go.Proofs.YtlefejokpdjpgaaGreat
