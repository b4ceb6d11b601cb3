/- Stamps in order: clock.Less, and the reference's. Conditions: none. -/
import Derived.Test.YtohcmljigcdmbaaGreatDot
import Derived.Test.YtohcmljigcdmbaaGreatHost
import Derived.Test.YtohcmljigcdmbaaGreatOrmP
import Derived.Test.YtohcmljigcdmbaaGreatRefR
import Derived.Test.YtohcmljigcdmbaaGreatOpen
import Derived.Test.YtohcmljigcdmbaaGreatLdM
set_option linter.unusedSimpArgs false
set_option linter.unusedVariables false
set_option linter.unnecessarySimpa false
set_option maxHeartbeats 16000000
set_option maxRecDepth 100000
namespace Go.Proofs.YtohcmljigcdmbaaGreat
open Go.RowKit
theorem MInv.overOk {s : MS} (hi : MInv s) {x : EvIt} (hx : x ∈ s.K) : ∀ d ∈ x.1.over, dotOk d = true := (evOk_parts (hi.kept x hx).1).2.1
/-! ### Key -/
section
variable {H : Type} {enc : TypeId × Value → H} {w : World} {base : Nat} {spare : Nat → Bool} {held : Bool}
open Go.ChangeShapes Go.WideShapes Go.ChangeAt
end
/-- what holds of a map behind n steps -/
structure SGood (s : MS) (n : Nat) : Prop where
 inv : MInv s
 nd : (s.K.map (·.1.dot)).Nodup
 ctx : s.ctx.length ≤ n
 dead : s.dead.length ≤ 64 * n
 small : ∀ x ∈ s.K, EvSmall x.1
theorem SGood.empty : SGood MS.empty 0 := ⟨MInv.empty, List.nodup_nil, Nat.le_refl _, Nat.le_refl _, fun x hx => (nomatch hx)⟩
theorem SGood.mono {s : MS} {n m : Nat} (h : SGood s n) (hm : n ≤ m) : SGood s m := ⟨h.inv, h.nd, Nat.le_trans h.ctx hm, by have := h.dead; omega, h.small⟩
theorem SGood.ap {s s' : MS} {n : Nat} {e : Ev} (h : SGood s n) (hs : EvSmall e) (ha : if apOk s e = true then Applied s e s' else s' = s) : SGood s' (n + 1) := by
 have h1 := RetAp.inv (m := 0) (b := ⟨0, 0, 0, 0, 0⟩) h.inv ha
 obtain ⟨h2, h3⟩ := RetAp.sizes ha
 have h4 := h.ctx
 have h5 := h.dead
 split at ha
 ·rename_i hok
  obtain ⟨a, c, hk⟩ := ha.kept
  obtain ⟨_, q2, _, _⟩ := apOk_parts hok
  refine ⟨h1, ?_, by omega, by omega, fun x hx => ?_⟩
  ·refine (hk.map fun x : EvIt => x.1.dot).nodup_iff.2 ?_
   rw [List.map_cons, List.nodup_cons]
   refine ⟨fun hm => ?_, h.nd⟩
   obtain ⟨x, hx, e2⟩ := List.mem_map.1 hm
   have := (h.inv.kept x hx).2
   rw [e2, q2] at this
   cases this
  ·rcases List.mem_cons.1 (hk.mem_iff.1 hx) with rfl | hx
   ·exact hs
   ·exact h.small x hx
 ·subst ha
  exact h.mono (Nat.le_succ n)
theorem SGood.cl {s : MS} {n : Nat} (h : SGood s n) (d : Dot) : SGood (clMS s d) (n + 1) := by
 unfold clMS
 split
 ·rename_i hok
  unfold clOk at hok
  simp only [Bool.and_eq_true, decide_eq_true_eq, Bool.not_eq_true'] at hok
  have hno : ∀ x ∈ s.K, x.1.dot ≠ d := fun x hx e => by
   have h1 := inK_yes hx
   rw [e, hok.2.2] at h1
   cases h1
  refine ⟨⟨h.inv.ctx, h.inv.ctxOk, h.inv.kept, fun k d' => ?_, h.inv.pnd, fun x hx => h.inv.dead x (List.mem_filter.1 hx).1, h.inv.len⟩, h.nd, Nat.le_succ_of_le h.ctx, ?_, h.small⟩
  ·show (k, d') ∈ s.pairs ↔ ∃ x ∈ s.K, x.1.kind = 1 ∧ x.1.dot = d' ∧ x.1.key = k ∧ d' ∉ s.dead.filter fun x => decide (x ≠ d)
   rw [h.inv.pairs]
   constructor
   ·rintro ⟨x, hx, y1, y2, y3, y4⟩
    exact ⟨x, hx, y1, y2, y3, fun h9 => y4 (List.mem_filter.1 h9).1⟩
   ·rintro ⟨x, hx, y1, y2, y3, y4⟩
    refine ⟨x, hx, y1, y2, y3, fun h9 => y4 (List.mem_filter.2 ⟨h9, decide_eq_true fun e => ?_⟩)⟩
    exact hno x hx (y2.trans e)
  ·have h1 := List.length_filter_le (fun x => decide (x ≠ d)) s.dead
   have := h.dead
   show (s.dead.filter fun x => decide (x ≠ d)).length ≤ _
   omega
 ·exact h.mono (Nat.le_succ n)
/-! ### what a map tells is loaded -/
theorem Rel.uniq {s : MS} {r y : RM} (h : Rel s r) (k : Rel s y) : r = y := by
 obtain ⟨a, b, c⟩ := r
 obtain ⟨d, e, f⟩ := y
 have h1 : a = s.ctx := h.ctx
 have h2 : b = eventsOf s := h.kept
 have h3 : c = sortD s.dead := h.dead
 have k1 : d = s.ctx := k.ctx
 have k2 : e = eventsOf s := k.kept
 have k3 : f = sortD s.dead := k.dead
 subst h1 h2 h3 k1 k2 k3
 rfl
theorem SGood.rel {s : MS} {n : Nat} (h : SGood s n) : Rel s ⟨s.ctx, eventsOf s, sortD s.dead⟩ := ⟨h.nd, rfl, rfl, rfl⟩
theorem Merged.come {s : MS} {l : List Ev} {s' : MS} {n : Nat} {f : Int} (h : Merged s l s' n f) : ∀ x ∈ s'.K, (∃ y ∈ s.K, y.1 = x.1) ∨ x.1 ∈ l := by
 induction h with
 | nil => exact fun x hx => Or.inl ⟨x, hx, rfl⟩
 | snoc _ hap ih =>
   intro x hx
   split at hap
   ·obtain ⟨a, c, hk⟩ := hap.kept
    rcases List.mem_cons.1 (hk.mem_iff.1 hx) with rfl | hx
    ·exact Or.inr (by simp)
    ·exact (ih x hx).imp id fun h => by simp [h]
   ·rw [hap] at hx
    exact (ih x hx).imp id fun h => by simp [h]
theorem MadeIn.kept {w w' : World} {m : Nat} {b : MB} {s : MS} {y : RMIt} {l : List Ev} {base : Nat} (h : MadeIn w m b s y l base) (hb : Below w.heap.size w w') : MadeIn w' m b s y l base :=
 ⟨h.map.kept_w hb, h.inv, h.ref.keep hb, h.rel, h.good, h.ctx, h.dead, h.low, h.merged⟩
theorem MadeIn.len {w : World} {m : Nat} {b : MB} {s : MS} {y : RMIt} {l : List Ev} {base : Nat} (h : MadeIn w m b s y l base) : s.K.length ≤ l.length := by
 have h1 := h.good.kept
 rwa [h.rel.kept, eventsOf_len h.rel.nd] at h1
end Go.Proofs.YtohcmljigcdmbaaGreat
