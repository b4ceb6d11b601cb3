/- Maps in memory, told by a list of their entries. Conditions: none. -/
import Derived.Test.YtkklcpmbgfgcmaaGreatKit
import Derived.Maps.RangeWalk
import Derived.DeepKeys4
import Derived.WideKeyEntry
set_option linter.unusedSimpArgs false
set_option linter.unusedVariables false
set_option linter.unnecessarySimpa false
namespace Go.Proofs.YtkklcpmbgfgcmaaGreat
open Go.RowKit
open Go.Maps (Keyed)
/-- an element reads as itself -/
def rawR (v : Value) : Option (DataW Value × List MemPlace) := some (.held v, [])
/-- a key's literal -/
noncomputable def klit (P : Program) (k : TypeId) (v : Value) : Lit := (keyOf P k v).getD (.bool true)
/-- a kind of keys: how they are written, and which may be -/
structure Kind (P : Program) (k : TypeId) {α : Type} (kv : α → Value) (ok : α → Prop) : Prop where
 law : Keyed P k
 inj : ∀ x y, kv x = kv y → x = y
 key : ∀ x, ok x → ∃ l, keyOf P k (kv x) = some l
section
variable {P : Program} {k : TypeId} {α β : Type} {kv : α → Value} {ok : α → Prop} {vv : β → Value}
theorem Kind.lit (K : Kind P k kv ok) {x : α} (h : ok x) : keyOf P k (kv x) = some (klit P k (kv x)) := by
 obtain ⟨l, hl⟩ := K.key x h
 simp [klit, hl]
theorem Kind.lit_inj (K : Kind P k kv ok) {x y : α} (hx : ok x) (hy : ok y) (h : klit P k (kv x) = klit P k (kv y)) : x = y :=
 K.inj _ _ (K.law.inj (K.lit hx) (by rw [h]; exact K.lit hy))
theorem Kind.isKey (K : Kind P k kv ok) {x : α} (hx : ok x) : WideAt.IsKeyLit (klit P k (kv x)) := K.law.key (K.lit hx)
/-- a datum that holds just the entries m -/
structure TabD (P : Program) (k : TypeId) (kv : α → Value) (ok : α → Prop) (vv : β → Value) (D : DataW Value) (m : List (α × β)) : Prop where
 hit : ∀ p ∈ m, ∀ z, D.atKey (klit P k (kv p.1)) z = .held (vv p.2)
 has : ∀ l, Maps.has D l = m.any fun p => (klit P k (kv p.1)).sameKey l
 size : Maps.size D = m.length
 okk : ∀ p ∈ m, ok p.1
 apart : m.Pairwise fun p q => p.1 ≠ q.1
/-- block b holds a map with just the entries m -/
def Tab (P : Program) (k : TypeId) (kv : α → Value) (ok : α → Prop) (vv : β → Value) (w : World) (b : Nat) (m : List (α × β)) : Prop :=
 ∃ D, w.ownsMap P k rawR b m.length D ∧ TabD P k kv ok vv D m
theorem TabD.perm {D : DataW Value} {m m' : List (α × β)} (h : TabD P k kv ok vv D m) (hp : m.Perm m') : TabD P k kv ok vv D m' :=
 ⟨fun p hp' z => h.hit p (hp.mem_iff.2 hp') z, fun l => by rw [h.has]; exact hp.any_eq, by rw [h.size, hp.length_eq], fun p hp' => h.okk p (hp.mem_iff.2 hp'),
  (hp.pairwise_iff (fun {_ _} hne => Ne.symm hne)).1 h.apart⟩
theorem Tab.perm {w : World} {b : Nat} {m m' : List (α × β)} (h : Tab P k kv ok vv w b m) (hp : m.Perm m') : Tab P k kv ok vv w b m' := by
 obtain ⟨D, h1, h2⟩ := h
 exact ⟨D, by rw [← hp.length_eq]; exact h1, h2.perm hp⟩
theorem Tab.okk {w : World} {b : Nat} {m : List (α × β)} (h : Tab P k kv ok vv w b m) : ∀ p ∈ m, ok p.1 := by
 obtain ⟨D, h1, h2⟩ := h
 exact h2.okk
theorem Tab.apart {w : World} {b : Nat} {m : List (α × β)} (h : Tab P k kv ok vv w b m) : m.Pairwise fun p q => p.1 ≠ q.1 := by
 obtain ⟨D, h1, h2⟩ := h
 exact h2.apart
theorem Tab.lt {w : World} {b : Nat} {m : List (α × β)} (h : Tab P k kv ok vv w b m) : b < w.heap.size := by
 obtain ⟨D, h1, h2⟩ := h
 exact h1.lt
theorem owns_block {H : Type} {R : Value → Option (DataW H × List MemPlace)} {w w' : World} {b n : Nat} {D : DataW H} (h : w.ownsMap P k R b n D) (hb : w'.heap[b]? = w.heap[b]?) : w'.ownsMap P k R b n D := by
 obtain ⟨es, clock, h1, h2⟩ := h
 exact ⟨es, clock, hb.trans h1, h2⟩
theorem Tab.block {w w' : World} {b : Nat} {m : List (α × β)} (h : Tab P k kv ok vv w b m) (hb : w'.heap[b]? = w.heap[b]?) : Tab P k kv ok vv w' b m := by
 obtain ⟨D, h1, h2⟩ := h
 exact ⟨D, owns_block h1 hb, h2⟩
theorem Tab.kept {w w' : World} {b : Nat} {m : List (α × β)} (h : Tab P k kv ok vv w b m) (hb : Below w.heap.size w w') : Tab P k kv ok vv w' b m := h.block (hb.block b h.lt)
theorem Tab.fr {S : Nat → Prop} {w w' : World} {b : Nat} {m : List (α × β)} (h : Tab P k kv ok vv w b m) (hf : Fr S w w') (hb : ¬ S b) : Tab P k kv ok vv w' b m := h.block (hf.block b h.lt hb)
theorem Tab.mapped {w : World} {b : Nat} {m : List (α × β)} (h : Tab P k kv ok vv w b m) : ∃ es cl, w.heap[b]? = some (.map es cl) := by
 obtain ⟨D, ⟨es, cl, h1, _⟩, h2⟩ := h
 exact ⟨es, cl, h1⟩
theorem owns_tight {H : Type} {R : Value → Option (DataW H × List MemPlace)} {w : World} {b n : Nat} {D : DataW H} (h : w.ownsMap P k R b n D) : w.ownsMap P k R b (Maps.size D) D := by
 obtain ⟨es, clock, h1, h2, h3, rfl⟩ := h
 exact ⟨es, clock, h1, h2, by simp [Maps.size, length_sorted], rfl⟩
theorem fr_turned {w w' : World} {b : Nat} (h : w.mapTurned w' b) : Fr (isR b) w w' := by
 have g := h.grown
 exact ⟨g.os, g.tape, g.output, g.size, fun i hi hne => g.block i hi (fun e => hne (by cases e; rfl))⟩
theorem Tab.made (w : World) : Tab P k kv ok vv (w.alloc (.map #[] 0)) w.heap.size ([] : List (α × β)) :=
 ⟨.map [], World.ownsMap_made w P k rawR, ⟨by simp, fun l => rfl, rfl, by simp, List.Pairwise.nil⟩⟩
/-! ### look-ups -/
theorem TabD.not_has (K : Kind P k kv ok) {D : DataW Value} {m : List (α × β)} (h : TabD P k kv ok vv D m) {x : α} (hx : ok x) (hn : ∀ p ∈ m, p.1 ≠ x) : Maps.has D (klit P k (kv x)) = false := by
 rw [h.has, List.any_eq_false]
 intro p hp
 rw [Maps.sameKey_ne (fun e => hn p hp (K.lit_inj (h.okk p hp) hx e))]
 simp
theorem TabD.is_has (K : Kind P k kv ok) {D : DataW Value} {m : List (α × β)} (h : TabD P k kv ok vv D m) {p : α × β} (hp : p ∈ m) : Maps.has D (klit P k (kv p.1)) = true := by
 rw [h.has, List.any_eq_true]
 exact ⟨p, hp, WideAt.sameKey_self (K.isKey (h.okk p hp))⟩
theorem held_inv {v : Value} {d : Value} {ps : List MemPlace} (h : rawR v = some (.held d, ps)) : v = d := by
 unfold rawR at h
 simp only [Option.some.injEq, Prod.mk.injEq, DataW.held.injEq] at h
 exact h.1
theorem Tab.look_hit (K : Kind P k kv ok) {w : World} {b : Nat} {m : List (α × β)} (h : Tab P k kv ok vv w b m) {t e : TypeId} (ht : P.underlying t = some (.map k e)) {z : Value} (hz : (zeroValue e).run P w = .ok z w)
 {p : α × β} (hp : p ∈ m) (c : Bool) : (Instr.lookup t (.map (some b)) (kv p.1) c).run P w = .ok (if c then .tuple #[vv p.2, .bool true] else vv p.2) w := by
 obtain ⟨D, h1, h2⟩ := h
 have hk := K.lit (h2.okk p hp)
 cases c with
 | true =>
   obtain ⟨v, ps, hrun, hv⟩ := h1.look_ok K.law ht hz (zd := .held z) (zp := []) rfl hk
   rw [h2.hit p hp] at hv
   obtain rfl := held_inv hv
   rw [h2.is_has K hp] at hrun
   exact hrun
 | false =>
   obtain ⟨v, ps, hrun, hv⟩ := h1.lookup K.law ht hz (zd := .held z) (zp := []) rfl hk
   rw [h2.hit p hp] at hv
   obtain rfl := held_inv hv
   exact hrun
theorem Tab.look_miss (K : Kind P k kv ok) {w : World} {b : Nat} {m : List (α × β)} (h : Tab P k kv ok vv w b m) {t e : TypeId} (ht : P.underlying t = some (.map k e)) {z : Value} (hz : (zeroValue e).run P w = .ok z w)
 {x : α} (hx : ok x) (hn : ∀ p ∈ m, p.1 ≠ x) (c : Bool) : (Instr.lookup t (.map (some b)) (kv x) c).run P w = .ok (if c then .tuple #[z, .bool false] else z) w := by
 obtain ⟨D, h1, h2⟩ := h
 have hk := K.lit hx
 have hh := h2.not_has K hx hn
 cases c with
 | true =>
   obtain ⟨v, ps, hrun, hv⟩ := h1.look_ok K.law ht hz (zd := .held z) (zp := []) rfl hk
   rw [Maps.atKey_of_not_has hh] at hv
   obtain rfl := held_inv hv
   rw [hh] at hrun
   exact hrun
 | false =>
   obtain ⟨v, ps, hrun, hv⟩ := h1.lookup K.law ht hz (zd := .held z) (zp := []) rfl hk
   rw [Maps.atKey_of_not_has hh] at hv
   obtain rfl := held_inv hv
   exact hrun
theorem Tab.len {w : World} {b : Nat} {m : List (α × β)} (h : Tab P k kv ok vv w b m) {t e : TypeId} (ht : P.underlying t = some (.map k e)) (ty : TypeId) :
 (Builtin.len_ #[t] ty #[.map (some b)]).run P w = .ok (.int .i64 m.length) w := by
 obtain ⟨D, h1, h2⟩ := h
 rw [h1.len ht ty, h2.size]
/-! ### stores -/
theorem TabD.put_new (K : Kind P k kv ok) {D : DataW Value} {m : List (α × β)} (h : TabD P k kv ok vv D m) (hT : Maps.Tidy D) {x : α} (hx : ok x) (hn : ∀ p ∈ m, p.1 ≠ x) (y : β) : TabD P k kv ok vv (D.put (klit P k (kv x)) (.held (vv y))) ((x, y) :: m) := by
 have hk := K.isKey hx
 refine ⟨fun p hp z => ?_, fun l => ?_, ?_, fun p hp => ?_, List.pairwise_cons.2 ⟨fun q hq => (hn q hq).symm, h.apart⟩⟩
 ·rcases List.mem_cons.1 hp with rfl | hp
  ·exact Maps.atKey_put_same hT.isMap hk _ _
  ·rw [Maps.atKey_put_other (fun e => hn p hp (K.lit_inj (h.okk p hp) hx e))]
   exact h.hit p hp z
 ·rw [List.any_cons]
  by_cases e : l = klit P k (kv x)
  ·subst e
   rw [Maps.has_put_same hT.isMap hk, WideAt.sameKey_self hk]
   rfl
  ·rw [Maps.has_put_other e, h.has, Maps.sameKey_ne (Ne.symm e)]
   rfl
 ·rw [Maps.size_put hT, h.not_has K hx hn, h.size]
  rfl
 ·rcases List.mem_cons.1 hp with rfl | hp
  ·exact hx
  ·exact h.okk p hp
theorem Tab.store_new (K : Kind P k kv ok) {w : World} {b : Nat} {m : List (α × β)} (h : Tab P k kv ok vv w b m) {t e : TypeId} (ht : P.underlying t = some (.map k e)) (hl : m.length < maxLen)
 {x : α} (hx : ok x) (hn : ∀ p ∈ m, p.1 ≠ x) (y : β) : ∃ w', (Instr.mapUpdate t (.map (some b)) (kv x) (vv y)).run P w = .ok () w' ∧ Tab P k kv ok vv w' b ((x, y) :: m) ∧ Fr (isR b) w w' := by
 obtain ⟨D, h1, h2⟩ := h
 obtain ⟨w', hrun, hown, hturn⟩ := h1.store K.law ht hl (K.lit hx) (d := .held (vv y)) (ps := []) rfl
 exact ⟨w', hrun, ⟨_, hown, h2.put_new K (h1.tidy K.law) hx hn y⟩, fr_turned hturn⟩
/-! ### deletions -/
theorem TabD.del_old (K : Kind P k kv ok) {D : DataW Value} {m : List (α × β)} {x : α} {y0 : β} (h : TabD P k kv ok vv D ((x, y0) :: m)) (hT : Maps.Tidy D) : TabD P k kv ok vv (D.del (klit P k (kv x))) m := by
 have hx : ok x := h.okk (x, y0) List.mem_cons_self
 have hap := List.pairwise_cons.1 h.apart
 refine ⟨fun p hp z => ?_, fun l => ?_, ?_, fun p hp => h.okk p (List.mem_cons_of_mem _ hp), hap.2⟩
 ·rw [Maps.atKey_del_other (fun e => (hap.1 p hp) (K.lit_inj (h.okk p (List.mem_cons_of_mem _ hp)) hx e).symm)]
  exact h.hit p (List.mem_cons_of_mem _ hp) z
 ·by_cases e : l = klit P k (kv x)
  ·subst e
   rw [Maps.has_del_same, eq_comm, List.any_eq_false]
   intro p hp
   rw [Maps.sameKey_ne (fun e => (hap.1 p hp) (K.lit_inj (h.okk p (List.mem_cons_of_mem _ hp)) hx e).symm)]
   simp
  ·rw [Maps.has_del_other e, h.has, List.any_cons, Maps.sameKey_ne (Ne.symm e)]
   rfl
 ·have := Maps.size_del (k := klit P k (kv x)) hT
  rw [h.is_has K (p := (x, y0)) List.mem_cons_self, h.size] at this
  simp only [List.length_cons, if_true] at this
  omega
theorem Tab.drop_old (K : Kind P k kv ok) {w : World} {b : Nat} {m : List (α × β)} {x : α} {y0 : β} (h : Tab P k kv ok vv w b ((x, y0) :: m)) {t e : TypeId} (ht : P.underlying t = some (.map k e)) (ty : TypeId) :
 ∃ w', (Builtin.delete_ #[t, k] ty #[.map (some b), kv x]).run P w = .ok (.tuple #[]) w' ∧ Tab P k kv ok vv w' b m ∧ Fr (isR b) w w' := by
 obtain ⟨D, h1, h2⟩ := h
 obtain ⟨w', hrun, hown, hturn⟩ := h1.drop K.law ht (K.lit (h2.okk (x, y0) List.mem_cons_self)) ty
 have h3 := h2.del_old K (h1.tidy K.law)
 refine ⟨w', hrun, ⟨_, ?_, h3⟩, fr_turned hturn⟩
 have := owns_tight hown
 rw [h3.size] at this
 exact this
/-! ### ranging -/
/-- block r ranges over the map in block b; rest: what is still to come -/
def TabIt (P : Program) (k : TypeId) (kv : α → Value) (ok : α → Prop) (vv : β → Value) (w : World) (b r : Nat) (m rest : List (α × β)) (cnt : Nat) : Prop :=
 ∃ D left, w.ranges P k rawR b r m.length D left cnt ∧ TabD P k kv ok vv D m ∧ (∀ l, left l = rest.any fun p => (klit P k (kv p.1)).sameKey l) ∧ (∀ p ∈ rest, p ∈ m) ∧ rest.Pairwise fun p q => p.1 ≠ q.1
theorem TabIt.tab {w : World} {b r cnt : Nat} {m rest : List (α × β)} (h : TabIt P k kv ok vv w b r m rest cnt) : Tab P k kv ok vv w b m := by
 obtain ⟨D, left, h1, h2, _⟩ := h
 exact ⟨D, h1.owns, h2⟩
theorem TabIt.lt {w : World} {b r cnt : Nat} {m rest : List (α × β)} (h : TabIt P k kv ok vv w b r m rest cnt) : r < w.heap.size := by
 obtain ⟨D, left, h1, h2, _⟩ := h
 exact h1.lt
theorem TabIt.block {w w' : World} {b r cnt : Nat} {m rest : List (α × β)} (h : TabIt P k kv ok vv w b r m rest cnt) (hb : w'.heap[b]? = w.heap[b]?) (hr : w'.heap[r]? = w.heap[r]?) : TabIt P k kv ok vv w' b r m rest cnt := by
 obtain ⟨D, left, ⟨es, clock, since, seen, c0, h1, h2, h3, h4, h5, h6⟩, hh⟩ := h
 exact ⟨D, left, ⟨es, clock, since, seen, c0, hb.trans h1, h2, h3, h4, hr.trans h5, h6⟩, hh⟩
theorem TabIt.kept {w w' : World} {b r cnt : Nat} {m rest : List (α × β)} (h : TabIt P k kv ok vv w b r m rest cnt) (hb : Below w.heap.size w w') : TabIt P k kv ok vv w' b r m rest cnt := h.block (hb.block b h.tab.lt) (hb.block r h.lt)
theorem TabIt.fr {S : Nat → Prop} {w w' : World} {b r cnt : Nat} {m rest : List (α × β)} (h : TabIt P k kv ok vv w b r m rest cnt) (hf : Fr S w w') (h1 : ¬ S b) (h2 : ¬ S r) : TabIt P k kv ok vv w' b r m rest cnt :=
 h.block (hf.block b h.tab.lt h1) (hf.block r h.lt h2)
variable {ops : Array Oper} {rest0 : List Oper} {o : Oper} {a : Act} {Q : Exit → Act → World → Prop}
theorem perm_split {α : Type} {p : α} : ∀ {l : List α}, p ∈ l → ∃ l', l.Perm (p :: l')
 | q :: l, h => by
   rcases List.mem_cons.1 h with rfl | h
   ·exact ⟨l, List.Perm.refl _⟩
   ·obtain ⟨l', h'⟩ := perm_split h
    exact ⟨q :: l', (h'.cons q).trans (List.Perm.swap ..)⟩
end
end Go.Proofs.YtkklcpmbgfgcmaaGreat
/- 'm[k]++' on a map that is told by its entries: the entry made ahead of the store. Conditions: none. -/
namespace Go.Proofs.YtkklcpmbgfgcmaaGreat
open Go.RowKit
open Go.ChangeMaps Go.MapKept
open Go.WideElems
open Go.Maps (Keyed)
section
variable {H : Type} {P : Program} {w : World} {t k e : TypeId} {R : Value → Option (DataW H × List MemPlace)} {b n : Nat} {D : DataW H}
end
end Go.Proofs.YtkklcpmbgfgcmaaGreat
