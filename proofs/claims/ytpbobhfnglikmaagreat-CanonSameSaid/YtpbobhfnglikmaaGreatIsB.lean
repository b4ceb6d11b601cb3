/- Maps made of events: what they hold; the context, told for one who holds the map. Conditions: none. -/
import Derived.Test.YtpbobhfnglikmaaGreatRefR
import Derived.Test.YtpbobhfnglikmaaGreatRelP
import Derived.Test.YtpbobhfnglikmaaGreatOpen
set_option linter.unusedSimpArgs false
set_option linter.unusedVariables false
set_option linter.unnecessarySimpa false
set_option maxHeartbeats 16000000
set_option maxRecDepth 100000
namespace Go.Proofs.YtpbobhfnglikmaaGreat
open Go.RowKit
theorem light_evs {n : Nat} {ls : List EvIt} (h : lightAll n (evsOf ls) = true) : ls.length ≤ n ∧ EvsSmall ls := by
 unfold lightAll at h
 simp only [Bool.and_eq_true, decide_eq_true_eq, List.all_eq_true] at h
 exact ⟨by rw [← evsOf_length]; exact h.1, fun x hx => light_small (h.2 x.1 (List.mem_map_of_mem hx))⟩
theorem Merged.come {s : MS} {l : List Ev} {s' : MS} {n : Nat} {f : Int} (h : Merged s l s' n f) : ∀ x ∈ s'.K, (∃ y ∈ s.K, y.1 = x.1) ∨ x.1 ∈ l := by
 induction h with
 | nil => exact fun x hx => Or.inl ⟨x, hx, rfl⟩
 | snoc _ hap ih =>
   intro x hx
   split at hap
   ·obtain ⟨a, c, hk⟩ := hap.kept
    rcases List.mem_cons.1 (hk.mem_iff.1 hx) with rfl | hx
    ·exact Or.inr (by simp)
    ·exact (ih x hx).imp id fun h => by simp [h]
   ·rw [hap] at hx
    exact (ih x hx).imp id fun h => by simp [h]
theorem MadeIn.kept {w w' : World} {m : Nat} {b : MB} {s : MS} {y : RMIt} {l : List Ev} {base : Nat} (h : MadeIn w m b s y l base) (hb : Below w.heap.size w w') : MadeIn w' m b s y l base :=
 ⟨h.map.kept_w hb, h.inv, h.ref.keep hb, h.rel, h.good, h.ctx, h.dead, h.low, h.merged⟩
theorem MadeIn.len {w : World} {m : Nat} {b : MB} {s : MS} {y : RMIt} {l : List Ev} {base : Nat} (h : MadeIn w m b s y l base) : s.K.length ≤ l.length := by
 have h1 := h.good.kept
 rwa [h.rel.kept, eventsOf_len h.rel.nd] at h1
/-- the context, told for one who holds the map -/
theorem callCtx {m : Nat} {b : MB} {s : MS} (w : World) (h : MpIn w m b s) (hi : MInv s) (hl : s.ctx.length ≤ 4096) :
 Calls Tryz.prog 32 #[.pointer (some ⟨m, 0, none⟩)] w fun e w' => ∃ a c, e = .returned (.slice a s.ctx.length c) ∧ DotsIn w' a s.ctx ∧ Below w.heap.size w w' := by
 refine (mContext_any w h hi.ctx (by omega)).mono ?_
 rintro e w' ⟨x, rfl, hown, hb⟩
 obtain ⟨a, c, rfl, hd⟩ := own_marks hown
 exact ⟨a, c, rfl, hd, hb⟩
end Go.Proofs.YtpbobhfnglikmaaGreat
