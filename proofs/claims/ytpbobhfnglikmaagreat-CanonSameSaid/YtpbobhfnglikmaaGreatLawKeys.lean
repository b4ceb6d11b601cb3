/- The law OrmapKeys, plainly. Conditions: none. -/
import Derived.Test.YtpbobhfnglikmaaGreatRefW
import Derived.Test.YtpbobhfnglikmaaGreatOrmP
import Derived.Test.YtpbobhfnglikmaaGreatRefR
import Derived.Test.YtpbobhfnglikmaaGreatOpen
set_option linter.unusedSimpArgs false
set_option linter.unusedVariables false
set_option linter.unnecessarySimpa false
set_option maxHeartbeats 16000000
set_option maxRecDepth 100000
namespace Go.Proofs.YtpbobhfnglikmaaGreat
open Go.RowKit
theorem evsOf_filter (p : Ev → Bool) (l : List EvIt) : evsOf (l.filter fun z => p z.1) = (evsOf l).filter p := by
 unfold evsOf
 rw [List.filter_map]
 rfl
theorem evAt_srt {K : List EvIt} (hnd : (K.map (·.1.dot)).Nodup) {l : List Dot} (hs : SrtD l) (hm : ∀ d ∈ l, ∃ x ∈ K, x.1.dot = d) : SrtE (l.map (evAt K)) := by
 refine List.pairwise_map.2 (hs.imp_of_mem fun {a b} ha hb hab => ?_)
 obtain ⟨x, hx, rfl⟩ := hm a ha
 obtain ⟨z, hz, rfl⟩ := hm b hb
 rw [evAt_nd hnd hx, evAt_nd hnd hz]
 exact hab
theorem evAt_memL {K : List EvIt} (hnd : (K.map (·.1.dot)).Nodup) {l : List Dot} (hm : ∀ d ∈ l, ∃ x ∈ K, x.1.dot = d) {e : Ev} : e ∈ (sortD l).map (evAt K) ↔ ∃ x ∈ K, x.1.dot ∈ l ∧ x.1 = e := by
 rw [List.mem_map]
 constructor
 ·rintro ⟨d, hd, rfl⟩
  obtain ⟨x, hx, rfl⟩ := hm d (sortD_mem.1 hd)
  exact ⟨x, hx, sortD_mem.1 hd, (evAt_nd hnd hx).symm⟩
 ·rintro ⟨x, hx, hd, rfl⟩
  exact ⟨x.1.dot, sortD_mem.2 hd, evAt_nd hnd hx⟩
theorem same_kept {s : MS} (hnd : (s.K.map (·.1.dot)).Nodup) {x z : EvIt} (hx : x ∈ s.K) (hz : z ∈ s.K) (e : x.1.dot = z.1.dot) : x.1 = z.1 := by
 rw [← evAt_nd hnd hx, ← evAt_nd hnd hz, e]
theorem aliveOf_mem {s : MS} (hi : MInv s) (hnd : (s.K.map (·.1.dot)).Nodup) {e : Ev} : e ∈ aliveOf s ↔ (∃ x ∈ s.K, x.1 = e) ∧ e.kind = 1 ∧ e.dot ∉ s.dead := by
 have hm : ∀ d ∈ s.pairs.map (·.2), ∃ x ∈ s.K, x.1.dot = d := fun d hd => by
  obtain ⟨q, hq, rfl⟩ := List.mem_map.1 hd
  obtain ⟨x, hx, _, h3, _⟩ := (hi.pairs q.1 q.2).1 hq
  exact ⟨x, hx, h3⟩
 unfold aliveOf
 rw [evAt_memL hnd hm]
 constructor
 ·rintro ⟨x, hx, hd, rfl⟩
  obtain ⟨q, hq, e9⟩ := List.mem_map.1 hd
  obtain ⟨z, hz, h2, h3, h4, h5⟩ := (hi.pairs q.1 q.2).1 hq
  have hxz := same_kept hnd hz hx (h3.trans e9)
  rw [hxz] at h2
  rw [e9] at h5
  exact ⟨⟨x, hx, rfl⟩, h2, h5⟩
 ·rintro ⟨⟨x, hx, rfl⟩, h2, h3⟩
  exact ⟨x, hx, List.mem_map.2 ⟨(x.1.key, x.1.dot), (hi.pairs _ _).2 ⟨x, hx, h2, rfl, rfl, h3⟩, rfl⟩, rfl⟩
/-- the reference's alive events are the map's -/
theorem alive_eq {s : MS} (hi : MInv s) {y : RMIt} (hr : Rel s y.rm) : evsOf (y.K.filter (aliveB y.dead)) = aliveOf s := by
 have hk : evsOf y.K = eventsOf s := hr.kept
 have hd : y.dead = sortD s.dead := hr.dead
 have hm : ∀ d ∈ s.pairs.map (·.2), ∃ x ∈ s.K, x.1.dot = d := fun d hd => by
  obtain ⟨q, hq, rfl⟩ := List.mem_map.1 hd
  obtain ⟨x, hx, _, h3, _⟩ := (hi.pairs q.1 q.2).1 hq
  exact ⟨x, hx, h3⟩
 have h1 : evsOf (y.K.filter (aliveB y.dead)) = (evsOf y.K).filter (fun e : Ev => decide (e.kind = 1) && !decide (e.dot ∈ y.dead)) := evsOf_filter (fun e : Ev => decide (e.kind = 1) && !decide (e.dot ∈ y.dead)) y.K
 rw [h1, hk]
 refine srtE_ext ((eventsOf_srt hr.nd).sublist List.filter_sublist) (evAt_srt hr.nd (sortD_srt _) fun d h => hm d (sortD_mem.1 h)) fun e => ?_
 rw [aliveOf_mem hi hr.nd, List.mem_filter, eventsOf_mem hr.nd, Bool.and_eq_true, decide_eq_true_eq, Bool.not_eq_true', decide_eq_false_iff_not, hd, sortD_mem]
section
variable {H : Type} {enc : TypeId × Value → H} {w : World} {base : Nat} {spare : Nat → Bool} {held : Bool}
open Go.ChangeShapes Go.WideShapes Go.ChangeAt
end
end Go.Proofs.YtpbobhfnglikmaaGreat
