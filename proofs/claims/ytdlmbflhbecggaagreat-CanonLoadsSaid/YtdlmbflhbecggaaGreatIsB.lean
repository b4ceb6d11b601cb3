/- The law OrmapKeys, plainly. Conditions: none. -/
import Derived.Test.YtdlmbflhbecggaaGreatRefW
import Derived.Test.YtdlmbflhbecggaaGreatOrmP
import Derived.Test.YtdlmbflhbecggaaGreatRefR
import Derived.Test.YtdlmbflhbecggaaGreatOpen
import Derived.Test.YtdlmbflhbecggaaGreatLdM
import Derived.Test.YtdlmbflhbecggaaGreatRelP
set_option linter.unusedSimpArgs false
set_option linter.unusedVariables false
set_option linter.unnecessarySimpa false
set_option maxHeartbeats 16000000
set_option maxRecDepth 100000
namespace Go.Proofs.YtdlmbflhbecggaaGreat
open Go.RowKit
theorem tX (p : Ev → Bool) (l : List bJ) : aQ (l.filter fun z => p z.1) = (aQ l).filter p := by
 unfold aQ
 rw [List.filter_map]
 rfl
theorem uf {K : List bJ} (hnd : (K.map (·.1.dot)).Nodup) {l : List Dot} (hs : SrtD l) (hm : ∀ d ∈ l, ∃ x ∈ K, x.1.dot = d) : wP (l.map (evAt K)) := by
 refine List.pairwise_map.2 (hs.imp_of_mem fun {a b} ha hb hab => ?_)
 obtain ⟨x, hx, rfl⟩ := hm a ha
 obtain ⟨z, hz, rfl⟩ := hm b hb
 rw [lQ hnd hx, lQ hnd hz]
 exact hab
theorem Aw {K : List bJ} (hnd : (K.map (·.1.dot)).Nodup) {l : List Dot} (hm : ∀ d ∈ l, ∃ x ∈ K, x.1.dot = d) {e : Ev} : e ∈ (sortD l).map (evAt K) ↔ ∃ x ∈ K, x.1.dot ∈ l ∧ x.1 = e := by
 rw [List.mem_map]
 constructor
 ·rintro ⟨d, hd, rfl⟩
  obtain ⟨x, hx, rfl⟩ := hm d (dC.1 hd)
  exact ⟨x, hx, dC.1 hd, (lQ hnd hx).symm⟩
 ·rintro ⟨x, hx, hd, rfl⟩
  exact ⟨x.1.dot, dC.2 hd, lQ hnd hx⟩
theorem uz {s : MS} (hnd : (s.K.map (·.1.dot)).Nodup) {x z : bJ} (hx : x ∈ s.K) (hz : z ∈ s.K) (e : x.1.dot = z.1.dot) : x.1 = z.1 := by
 rw [← lQ hnd hx, ← lQ hnd hz, e]
theorem mf {s : MS} (hi : MInv s) (hnd : (s.K.map (·.1.dot)).Nodup) (k : Key) {e : Ev} : e ∈ keyOfS s k ↔ (∃ x ∈ s.K, x.1 = e) ∧ e.kind = 1 ∧ e.dot ∉ s.dead ∧ e.key = k := by
 have hm : ∀ d ∈ atK s.pairs k, ∃ x ∈ s.K, x.1.dot = d := fun d hd => by
  obtain ⟨x, hx, _, h3, _⟩ := (hi.pairs k d).1 (jI.1 hd)
  exact ⟨x, hx, h3⟩
 unfold keyOfS
 rw [Aw hnd hm]
 constructor
 ·rintro ⟨x, hx, hd, rfl⟩
  obtain ⟨z, hz, h2, h3, h4, h5⟩ := (hi.pairs k _).1 (jI.1 hd)
  have hxz := uz hnd hz hx h3
  rw [hxz] at h2 h4
  exact ⟨⟨x, hx, rfl⟩, h2, h5, h4⟩
 ·rintro ⟨⟨x, hx, rfl⟩, h2, h3, h4⟩
  exact ⟨x, hx, jI.2 ((hi.pairs k _).2 ⟨x, hx, h2, rfl, h4, h3⟩), rfl⟩
theorem lq {s : MS} (hi : MInv s) (hnd : (s.K.map (·.1.dot)).Nodup) {e : Ev} : e ∈ eQ s ↔ (∃ x ∈ s.K, x.1 = e) ∧ e.kind = 1 ∧ e.dot ∉ s.dead := by
 have hm : ∀ d ∈ s.pairs.map (·.2), ∃ x ∈ s.K, x.1.dot = d := fun d hd => by
  obtain ⟨q, hq, rfl⟩ := List.mem_map.1 hd
  obtain ⟨x, hx, _, h3, _⟩ := (hi.pairs q.1 q.2).1 hq
  exact ⟨x, hx, h3⟩
 unfold eQ
 rw [Aw hnd hm]
 constructor
 ·rintro ⟨x, hx, hd, rfl⟩
  obtain ⟨q, hq, e9⟩ := List.mem_map.1 hd
  obtain ⟨z, hz, h2, h3, h4, h5⟩ := (hi.pairs q.1 q.2).1 hq
  have hxz := uz hnd hz hx (h3.trans e9)
  rw [hxz] at h2
  rw [e9] at h5
  exact ⟨⟨x, hx, rfl⟩, h2, h5⟩
 ·rintro ⟨⟨x, hx, rfl⟩, h2, h3⟩
  exact ⟨x, hx, List.mem_map.2 ⟨(x.1.key, x.1.dot), (hi.pairs _ _).2 ⟨x, hx, h2, rfl, rfl, h3⟩, rfl⟩, rfl⟩
/-- the reference's alive events are the map's -/
theorem EG {s : MS} (hi : MInv s) {y : RMIt} (hr : Rel s y.rm) : aQ (y.K.filter (iC y.dead)) = eQ s := by
 have hk : aQ y.K = dA s := hr.kept
 have hd : y.dead = sortD s.dead := hr.dead
 have hm : ∀ d ∈ s.pairs.map (·.2), ∃ x ∈ s.K, x.1.dot = d := fun d hd => by
  obtain ⟨q, hq, rfl⟩ := List.mem_map.1 hd
  obtain ⟨x, hx, _, h3, _⟩ := (hi.pairs q.1 q.2).1 hq
  exact ⟨x, hx, h3⟩
 have h1 : aQ (y.K.filter (iC y.dead)) = (aQ y.K).filter (fun e : Ev => decide (e.kind = 1) && !decide (e.dot ∈ y.dead)) := tX (fun e : Ev => decide (e.kind = 1) && !decide (e.dot ∈ y.dead)) y.K
 rw [h1, hk]
 refine sH ((lN hr.nd).sublist List.filter_sublist) (uf hr.nd (jl _) fun d h => hm d (dC.1 h)) fun e => ?_
 rw [lq hi hr.nd, List.mem_filter, fO hr.nd, Bool.and_eq_true, decide_eq_true_eq, Bool.not_eq_true', decide_eq_false_iff_not, hd, dC]
theorem NH {s : MS} (hi : MInv s) {y : RMIt} (hr : Rel s y.rm) (k : Key) : aQ ((y.K.filter (iC y.dead)).filter (uJ k)) = keyOfS s k := by
 have hm : ∀ d ∈ atK s.pairs k, ∃ x ∈ s.K, x.1.dot = d := fun d hd => by
  obtain ⟨x, hx, _, h3, _⟩ := (hi.pairs k d).1 (jI.1 hd)
  exact ⟨x, hx, h3⟩
 have hm2 : ∀ d ∈ s.pairs.map (·.2), ∃ x ∈ s.K, x.1.dot = d := fun d hd => by
  obtain ⟨q, hq, rfl⟩ := List.mem_map.1 hd
  obtain ⟨x, hx, _, h3, _⟩ := (hi.pairs q.1 q.2).1 hq
  exact ⟨x, hx, h3⟩
 have h1 : aQ ((y.K.filter (iC y.dead)).filter (uJ k)) = (aQ (y.K.filter (iC y.dead))).filter (fun e : Ev => decide (e.key = k)) := tX (fun e : Ev => decide (e.key = k)) _
 rw [h1, EG hi hr]
 refine sH ((uf hr.nd (jl _) fun d h => hm2 d (dC.1 h)).sublist List.filter_sublist) (uf hr.nd (jl _) fun d h => hm d (dC.1 h)) fun e => ?_
 rw [mf hi hr.nd k, List.mem_filter, decide_eq_true_eq, lq hi hr.nd]
 constructor
 ·rintro ⟨⟨h1, h2, h3⟩, h4⟩
  exact ⟨h1, h2, h3, h4⟩
 ·rintro ⟨h1, h2, h3, h4⟩
  exact ⟨⟨h1, h2, h3⟩, h4⟩
section
variable {H : Type} {enc : TypeId × Value → H} {w : World} {base : Nat} {spare : Nat → Bool} {held : Bool}
open Go.ChangeShapes Go.WideShapes Go.ChangeAt
end
/-- what holds of a map behind n steps -/
structure SGood (s : MS) (n : Nat) : Prop where
 inv : MInv s
 nd : (s.K.map (·.1.dot)).Nodup
 ctx : s.ctx.length ≤ n
 dead : s.dead.length ≤ 64 * n
 small : ∀ x ∈ s.K, EvSmall x.1
theorem SGood.empty : SGood MS.empty 0 := ⟨MInv.empty, List.nodup_nil, Nat.le_refl _, Nat.le_refl _, fun x hx => (nomatch hx)⟩
theorem SGood.mono {s : MS} {n m : Nat} (h : SGood s n) (hm : n ≤ m) : SGood s m := ⟨h.inv, h.nd, Nat.le_trans h.ctx hm, by have := h.dead; omega, h.small⟩
theorem SGood.ap {s s' : MS} {n : Nat} {e : Ev} (h : SGood s n) (hs : EvSmall e) (ha : if nS s e = true then Applied s e s' else s' = s) : SGood s' (n + 1) := by
 have h1 := RetAp.inv (m := 0) (b := ⟨0, 0, 0, 0, 0⟩) h.inv ha
 obtain ⟨h2, h3⟩ := RetAp.sizes ha
 have h4 := h.ctx
 have h5 := h.dead
 split at ha
 ·rename_i hok
  obtain ⟨a, c, hk⟩ := ha.kept
  obtain ⟨_, q2, _, _⟩ := jO hok
  refine ⟨h1, ?_, by omega, by omega, fun x hx => ?_⟩
  ·refine (hk.map fun x : bJ => x.1.dot).nodup_iff.2 ?_
   rw [List.map_cons, List.nodup_cons]
   refine ⟨fun hm => ?_, h.nd⟩
   obtain ⟨x, hx, e2⟩ := List.mem_map.1 hm
   have := (h.inv.kept x hx).2
   rw [e2, q2] at this
   cases this
  ·rcases List.mem_cons.1 (hk.mem_iff.1 hx) with rfl | hx
   ·exact hs
   ·exact h.small x hx
 ·subst ha
  exact h.mono (Nat.le_succ n)
theorem SGood.cl {s : MS} {n : Nat} (h : SGood s n) (d : Dot) : SGood (PD s d) (n + 1) := by
 unfold PD
 split
 ·rename_i hok
  unfold Pz at hok
  simp only [Bool.and_eq_true, decide_eq_true_eq, Bool.not_eq_true'] at hok
  have hno : ∀ x ∈ s.K, x.1.dot ≠ d := fun x hx e => by
   have h1 := LQ hx
   rw [e, hok.2.2] at h1
   cases h1
  refine ⟨⟨h.inv.ctx, h.inv.ctxOk, h.inv.kept, fun k d' => ?_, h.inv.pnd, fun x hx => h.inv.dead x (List.mem_filter.1 hx).1, h.inv.len⟩, h.nd, Nat.le_succ_of_le h.ctx, ?_, h.small⟩
  ·show (k, d') ∈ s.pairs ↔ ∃ x ∈ s.K, x.1.kind = 1 ∧ x.1.dot = d' ∧ x.1.key = k ∧ d' ∉ s.dead.filter fun x => decide (x ≠ d)
   rw [h.inv.pairs]
   constructor
   ·rintro ⟨x, hx, y1, y2, y3, y4⟩
    exact ⟨x, hx, y1, y2, y3, fun h9 => y4 (List.mem_filter.1 h9).1⟩
   ·rintro ⟨x, hx, y1, y2, y3, y4⟩
    refine ⟨x, hx, y1, y2, y3, fun h9 => y4 (List.mem_filter.2 ⟨h9, decide_eq_true fun e => ?_⟩)⟩
    exact hno x hx (y2.trans e)
  ·have h1 := List.length_filter_le (fun x => decide (x ≠ d)) s.dead
   have := h.dead
   show (s.dead.filter fun x => decide (x ≠ d)).length ≤ _
   omega
 ·exact h.mono (Nat.le_succ n)
/-! ### what a map tells is loaded -/
theorem SGood.rel {s : MS} {n : Nat} (h : SGood s n) : Rel s ⟨s.ctx, dA s, sortD s.dead⟩ := ⟨h.nd, rfl, rfl, rfl⟩
theorem Merged.come {s : MS} {l : List Ev} {s' : MS} {n : Nat} {f : Int} (h : Merged s l s' n f) : ∀ x ∈ s'.K, (∃ y ∈ s.K, y.1 = x.1) ∨ x.1 ∈ l := by
 induction h with
 | nil => exact fun x hx => Or.inl ⟨x, hx, rfl⟩
 | snoc _ hap ih =>
   intro x hx
   split at hap
   ·obtain ⟨a, c, hk⟩ := hap.kept
    rcases List.mem_cons.1 (hk.mem_iff.1 hx) with rfl | hx
    ·exact Or.inr (by simp)
    ·exact (ih x hx).imp id fun h => by simp [h]
   ·rw [hap] at hx
    exact (ih x hx).imp id fun h => by simp [h]
theorem MadeIn.kept {w w' : World} {m : Nat} {b : MB} {s : MS} {y : RMIt} {l : List Ev} {base : Nat} (h : MadeIn w m b s y l base) (hb : Below w.heap.size w w') : MadeIn w' m b s y l base :=
 ⟨h.map.kept_w hb, h.inv, h.ref.keep hb, h.rel, h.good, h.ctx, h.dead, h.low, h.merged⟩
theorem MadeIn.len {w : World} {m : Nat} {b : MB} {s : MS} {y : RMIt} {l : List Ev} {base : Nat} (h : MadeIn w m b s y l base) : s.K.length ≤ l.length := by
 have h1 := h.good.kept
 rwa [h.rel.kept, iJ h.rel.nd] at h1
theorem MadeIn.full {w : World} {m : Nat} {b : MB} {s : MS} {y : RMIt} {l : List Ev} {base : Nat} (h : MadeIn w m b s y l base) : FullM s := by
 obtain ⟨n, f, hM⟩ := h.merged
 exact hM.full FullM.empty
/-- the context, told for one who holds the map -/
theorem G8 {m : Nat} {b : MB} {s : MS} (w : World) (h : MpIn w m b s) (hi : MInv s) (hl : s.ctx.length ≤ 4096) :
 Calls Tryz.prog 39 #[.pointer (some ⟨m, 0, none⟩)] w fun e w' => ∃ a c, e = .returned (.slice a s.ctx.length c) ∧ DotsIn w' a s.ctx ∧ Below w.heap.size w w' := by
 refine (BJ w h hi.ctx (by omega)).mono ?_
 rintro e w' ⟨x, rfl, hown, hb⟩
 obtain ⟨a, c, rfl, hd⟩ := Ir hown
 exact ⟨a, c, rfl, hd, hb⟩
end Go.Proofs.YtdlmbflhbecggaaGreat
