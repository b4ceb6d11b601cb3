/- Maps as lists of entries: ranged over within a fence. Conditions: none. -/
import Derived.Test.YtohmadchgacafaaTab
import Derived.Sort.MapsRangeIn
import Derived.RangeFuncSeq
import Derived.Test.YtohmadchgacafaaKeys
import Derived.Test.YtohmadchgacafaaCel
import Derived.RangeFuncNested
import Derived.RangeFuncBound
import Derived.RangeFuncCalls
import Derived.RangeFuncLeaves
import Derived.Shelf.Abstract
import Derived.Shelf.AbstractIn
import Derived.WalkKit
import Derived.OwnWalkIn
import Derived.TacticsInMore
import Derived.LoopNIn
import Derived.LoopIn
import Derived.Sort.CutIn
import Derived.Test.YtohmadchgacafaaClone
import Derived.Maps.AppendAt
set_option linter.unusedSimpArgs false
set_option linter.unusedVariables false
set_option linter.unnecessarySimpa false
namespace Go.Proofs.Ytohmadchgacafaa
open Go.RowKit

section
variable {P : Program} {k : TypeId} {α β : Type} {kv : α → Value} {ok : α → Prop} {vv : β → Value}
theorem TabIt.of_walks {w w' : World} {b r cnt : Nat} {m rest : List (α × β)} (h : TabIt P k kv ok vv w b r m rest cnt) (hk : KeepsWalks w w') : TabIt P k kv ok vv w' b r m rest cnt := by
  obtain ⟨D, left, h1, h2⟩ := h
  exact ⟨D, left, h1.of_walks hk, h2⟩
theorem TabIt.iter_walk {w : World} {b r cnt : Nat} {m rest : List (α × β)} (h : TabIt P k kv ok vv w b r m rest cnt) : ∃ o : Obj, w.heap[r]? = some o ∧ o.isWalk = true := by
  obtain ⟨D, left, h1, h2⟩ := h
  exact h1.iter_walk
theorem grown_of_below {w w' : World} (h : Below w.heap.size w w') (row : Option Nat) : w.grownBy w' row := ⟨h.os, h.tape, h.output, h.size, fun i hi _ => h.block i hi⟩
theorem walks_of_below {w w' : World} (h : Below w.heap.size w w') : KeepsWalks w w' := ⟨h.size, fun i o hi _ => (h.block i (Array.getElem?_eq_some_iff.1 hi).1).trans hi⟩
variable {F : Fence} {n : Nat} {ops : Array Oper} {rest0 : List Oper} {o : Oper} {a : Act} {Q : Exit → Act → World → Prop}
theorem wpListIn_range_tab (K : Kind P k kv ok) (w : World) (hg : o.guard = none) (mo : Operand) (t : TypeId) (hop : o.op = Op.range t mo) (e : TypeId) (ht : P.underlying t = some (.map k e)) (b : Nat) {m : List (α × β)}
    (hm : a.eval mo = .map (some b)) (h : Tab P k kv ok vv w b m)
    (hK : ∀ w' cnt, TabIt P k kv ok vv w' b w.heap.size m m cnt → Below w.heap.size w w' → w'.heap.size = w.heap.size + 1 → wpListIn F n P ops Q rest0 (a.put o.dst (.pointer (some ⟨w.heap.size, 0, none⟩))) w') :
    wpListIn F n P ops Q (o :: rest0) a w := by
  obtain ⟨D, h1, h2⟩ := h
  exact wpListIn_range_own w hg mo t hop k e K.law ht rawR b _ D hm h1 fun w' hr hgr hs => hK w' _ ⟨D, _, hr, h2, h2.has, fun _ h => h, h2.apart⟩ (below_grown hgr) hs
theorem TabIt.step (K : Kind P k kv ok) {w : World} {b r cnt : Nat} {m rest : List (α × β)} (h : TabIt P k kv ok vv w b r m rest cnt) (ty : TypeId) :
    (rest = [] ∧ (Instr.next (.pointer (some ⟨r, 0, none⟩)) false ty).run P w = .ok (.tuple #[.bool false]) w) ∨
    ∃ (p : α × β) (rest' : List (α × β)) (w' : World) (cnt' : Nat), rest.Perm (p :: rest') ∧ p ∈ m ∧ TabIt P k kv ok vv w' b r m rest' cnt' ∧ cnt' < cnt ∧ w.grownBy w' (some r) ∧ w'.heap.size = w.heap.size ∧
      (Instr.next (.pointer (some ⟨r, 0, none⟩)) false ty).run P w = .ok (.tuple #[.bool true, kv p.1, vv p.2]) w' ∧ (Instr.entry (.pointer (some ⟨r, 0, none⟩))).run P w' = .ok (.tuple #[kv p.1, vv p.2]) w' := by
  obtain ⟨D, left, hr, hD, hleft, hsub, hap⟩ := h
  rcases hr.next K.law ty with ⟨h0, hl, hrun⟩ | ⟨key, v, kl, y, w', cnt', hkey, hlk, hv, hat, hrun, hrg, hlt, hgr, hsz, hen⟩
  · refine Or.inl ⟨?_, hrun⟩
    cases rest with
    | nil => rfl
    | cons p rest =>
      have := hl (klit P k (kv p.1))
      rw [hleft, List.any_cons, WideAt.sameKey_self (K.isKey (hD.okk p (hsub p List.mem_cons_self)))] at this
      cases this
  · rw [hleft, List.any_eq_true] at hlk
    obtain ⟨p, hp, hpk⟩ := hlk
    have hpm := hsub p hp
    have hok := hD.okk p hpm
    have hkl : klit P k (kv p.1) = kl := WideAt.sameKey_eq hpk
    obtain rfl : key = kv p.1 := K.law.inj hkey (by rw [← hkl]; exact K.lit hok)
    have hy : DataW.held v = y.1 := by
      have : y = (.held v, []) := by have := hv; unfold rawR at this; exact (Option.some.inj this).symm
      rw [this]
    have hvv : v = vv p.2 := by
      have h1 := hat (.held v)
      rw [← hkl, hD.hit p hpm, ← hy] at h1
      exact (DataW.held.inj h1).symm
    subst hvv
    obtain ⟨rest', hperm⟩ := perm_split hp
    have hap' := (hperm.pairwise_iff (fun {_ _} hne => Ne.symm hne)).1 hap
    have hap2 := List.pairwise_cons.1 hap'
    refine Or.inr ⟨p, rest', w', cnt', hperm, hpm, ⟨D, _, hrg, hD, fun l => ?_, fun q hq => hsub q (hperm.mem_iff.2 (List.mem_cons_of_mem _ hq)), hap2.2⟩, hlt, hgr, hsz, hrun, hen⟩
    show (left l && !l.sameKey kl) = _
    rw [hleft, hperm.any_eq, List.any_cons, ← hkl]
    by_cases e : l = klit P k (kv p.1)
    · subst e
      rw [WideAt.sameKey_self (K.isKey hok)]
      simp only [Bool.not_true, Bool.and_false]
      rw [eq_comm, List.any_eq_false]
      intro q hq
      rw [Maps.sameKey_ne (fun e => (hap2.1 q hq) (K.lit_inj (hD.okk q (hsub q (hperm.mem_iff.2 (List.mem_cons_of_mem _ hq)))) hok e).symm)]
      simp
    · rw [Maps.sameKey_ne e, Maps.sameKey_ne (Ne.symm e)]
      simp
theorem wpListIn_next_tab (K : Kind P k kv ok) (w : World) (hg : o.guard = none) (it : Operand) (hop : o.op = Op.next it false) (b r cnt : Nat) {m rest : List (α × β)}
    (hit : a.eval it = .pointer (some ⟨r, 0, none⟩)) (h : TabIt P k kv ok vv w b r m rest cnt)
    (hDone : rest = [] → wpListIn F n P ops Q rest0 (a.put o.dst (.tuple #[.bool false])) w)
    (hMore : ∀ (p : α × β) (rest' : List (α × β)) (w' : World) (cnt' : Nat), rest.Perm (p :: rest') → p ∈ m → TabIt P k kv ok vv w' b r m rest' cnt' → cnt' < cnt → w.grownBy w' (some r) → w'.heap.size = w.heap.size →
      (Instr.entry (.pointer (some ⟨r, 0, none⟩))).run P w' = .ok (.tuple #[kv p.1, vv p.2]) w' → wpListIn F n P ops Q rest0 (a.put o.dst (.tuple #[.bool true, kv p.1, vv p.2])) w') :
    wpListIn F n P ops Q (o :: rest0) a w := by
  refine wpListIn_plain hg fun K' hK' => ?_
  unfold Oper.wpIn
  refine ⟨by simp [Oper.about, hop], ?_⟩
  rw [Oper.semAt_plain F _ _ (by rw [hop]; intro c hc'; cases hc')]
  rcases h.step K o.type with ⟨h0, hrun⟩ | ⟨p, rest', w', cnt', h1, h2, h3, h4, h5, h6, hrun, h7⟩
  · simp [execOp, hop, hit, hrun, Result.andThen]
    exact hK' _ _ (hDone h0)
  · simp [execOp, hop, hit, hrun, Result.andThen]
    exact hK' _ _ (hMore p rest' w' cnt' h1 h2 h3 h4 h5 h6 h7)
end
theorem wpIn_name {F : Fence} {n : Nat} {P : Program} {c : Code} {Q : Exit → Act → World → Prop} {a : Act} {w : World} (h : ∀ W, Hid (W = w) → Code.wpIn F n P c Q a W) : Code.wpIn F n P c Q a w := h w rfl
end Go.Proofs.Ytohmadchgacafaa

/- The keys of a map, one by one: maps.Keys and its iterator, at dots and at actors. Conditions: none. -/
namespace Go.Proofs.Ytohmadchgacafaa
open Go.RowKit Go.Shelf

end Go.Proofs.Ytohmadchgacafaa

/- The keys of a map, collected: slices.AppendSeq, slices.Collect, at dots and at actors. Conditions: at most 2^30 keys. -/
namespace Go.Proofs.Ytohmadchgacafaa
open Go.RowKit Go.Shelf

def actVals (l : List Actor) : List Value := l.flatMap fun a => [.int .i64 a.dev, .int .i64 a.inc]
theorem cells_new (w : World) (cs : List Value) (t : TypeId) : ∀ j u, cs[j]? = some u → (w.alloc (.cells cs.toArray t)).cell? ((⟨w.heap.size, 0, none⟩ : Addr).add j) = some u := by
  intro j u hj
  rw [Addr.add_mid, Nat.zero_add, World.cell?_alloc_new]
  simpa using hj
theorem cells2_of {w : World} {b : Nat} {c0 c1 : Value} {t : TypeId} (h : w.heap[b]? = some (.cells #[c0, c1] t (0, 0))) : w.cell? ⟨b, 0, none⟩ = some c0 ∧ w.cell? ⟨b, 1, none⟩ = some c1 := by simp [World.cell?, h]
theorem cells3_of {w : World} {b : Nat} {c0 c1 c2 : Value} {t : TypeId} (h : w.heap[b]? = some (.cells #[c0, c1, c2] t (0, 0))) : w.cell? ⟨b, 0, none⟩ = some c0 ∧ w.cell? ⟨b, 1, none⟩ = some c1 ∧ w.cell? ⟨b, 2, none⟩ = some c2 := by simp [World.cell?, h]
theorem block_own {β : Type} (B : Nat) (f : β → Array Value) (t : TypeId) : Own (fun s W => W.heap[B]? = some (.cells (f s) t (0, 0))) := fun s X Y row hs hg hrow => by
  refine (hg.block B (Array.getElem?_eq_some_iff.1 hs).1 (fun e => ?_)).trans hs
  obtain ⟨o, ho, hc⟩ := hrow B e.symm
  rw [hs] at ho; cases ho; cases hc

end Go.Proofs.Ytohmadchgacafaa
