/- The ormap laws' steps, plainly: what holds behind each. Conditions: none. -/
import Derived.Test.YtdlmbflhbecggaaGreatLdM
import Derived.Test.YtdlmbflhbecggaaGreatLawKeys
import Derived.Test.YtdlmbflhbecggaaGreatRefR
import Derived.Test.YtdlmbflhbecggaaGreatOpen
set_option linter.unusedSimpArgs false
set_option linter.unusedVariables false
set_option linter.unnecessarySimpa false
set_option maxHeartbeats 16000000
set_option maxRecDepth 100000
namespace Go.Proofs.YtdlmbflhbecggaaGreat
open Go.RowKit
/-- what holds of a map behind n steps -/
structure SGood (s : MS) (n : Nat) : Prop where
 inv : MInv s
 nd : (s.K.map (·.1.dot)).Nodup
 ctx : s.ctx.length ≤ n
 dead : s.dead.length ≤ 64 * n
 small : ∀ x ∈ s.K, EvSmall x.1
theorem SGood.empty : SGood MS.empty 0 := ⟨MInv.empty, List.nodup_nil, Nat.le_refl _, Nat.le_refl _, fun x hx => (nomatch hx)⟩
theorem SGood.mono {s : MS} {n m : Nat} (h : SGood s n) (hm : n ≤ m) : SGood s m := ⟨h.inv, h.nd, Nat.le_trans h.ctx hm, by have := h.dead; omega, h.small⟩
theorem SGood.ap {s s' : MS} {n : Nat} {e : Ev} (h : SGood s n) (hs : EvSmall e) (ha : if jJ s e = true then Applied s e s' else s' = s) : SGood s' (n + 1) := by
 have h1 := RetAp.inv (m := 0) (b := ⟨0, 0, 0, 0, 0⟩) h.inv ha
 obtain ⟨h2, h3⟩ := RetAp.sizes ha
 have h4 := h.ctx
 have h5 := h.dead
 split at ha
 ·rename_i hok
  obtain ⟨a, c, hk⟩ := ha.kept
  obtain ⟨_, q2, _, _⟩ := jX hok
  refine ⟨h1, ?_, by omega, by omega, fun x hx => ?_⟩
  ·refine (hk.map fun x : bg => x.1.dot).nodup_iff.2 ?_
   rw [List.map_cons, List.nodup_cons]
   refine ⟨fun hm => ?_, h.nd⟩
   obtain ⟨x, hx, e2⟩ := List.mem_map.1 hm
   have := (h.inv.kept x hx).2
   rw [e2, q2] at this
   cases this
  ·rcases List.mem_cons.1 (hk.mem_iff.1 hx) with rfl | hx
   ·exact hs
   ·exact h.small x hx
 ·subst ha
  exact h.mono (Nat.le_succ n)
theorem uK {e : Ev} (h : cu e = true) (hk : e.kind = 1) : cu { e with over := [] } = true := by
 unfold cu at h ⊢
 simp only [Bool.and_eq_true, decide_eq_true_eq] at h ⊢
 obtain ⟨h1, h2, h3, _, h5⟩ := h
 refine ⟨h1, h2, h3, rfl, ?_⟩
 unfold kindOk at h5 ⊢
 rw [if_neg (by rw [hk]; decide), if_pos hk] at h5
 show (if e.kind = 2 then _ else if e.kind = 1 then gp e.key e.ck else false) = true
 rw [if_neg (by rw [hk]; decide), if_pos hk]
 exact h5
theorem SGood.cl {s : MS} {n : Nat} (h : SGood s n) (d : Dot) : SGood (RN s d) (n + 1) := by
 unfold RN
 split
 ·rename_i hok
  unfold RJ at hok
  simp only [Bool.and_eq_true, decide_eq_true_eq, Bool.not_eq_true'] at hok
  have hno : ∀ x ∈ s.K, x.1.dot ≠ d := fun x hx e => by
   have h1 := NW hx
   rw [e, hok.2.2] at h1
   cases h1
  refine ⟨⟨h.inv.ctx, h.inv.ctxOk, h.inv.kept, fun k d' => ?_, h.inv.pnd, fun x hx => h.inv.dead x (List.mem_filter.1 hx).1, h.inv.len⟩, h.nd, Nat.le_succ_of_le h.ctx, ?_, h.small⟩
  ·show (k, d') ∈ s.pairs ↔ ∃ x ∈ s.K, x.1.kind = 1 ∧ x.1.dot = d' ∧ x.1.key = k ∧ d' ∉ s.dead.filter fun x => decide (x ≠ d)
   rw [h.inv.pairs]
   constructor
   ·rintro ⟨x, hx, y1, y2, y3, y4⟩
    exact ⟨x, hx, y1, y2, y3, fun h9 => y4 (List.mem_filter.1 h9).1⟩
   ·rintro ⟨x, hx, y1, y2, y3, y4⟩
    refine ⟨x, hx, y1, y2, y3, fun h9 => y4 (List.mem_filter.2 ⟨h9, decide_eq_true fun e => ?_⟩)⟩
    exact hno x hx (y2.trans e)
  ·have h1 := List.length_filter_le (fun x => decide (x ≠ d)) s.dead
   have := h.dead
   show (s.dead.filter fun x => decide (x ≠ d)).length ≤ _
   omega
 ·exact h.mono (Nat.le_succ n)
/-! ### what a map tells is loaded -/
theorem ut (ctx : List Dot) : ∀ (K : List bg) (p : Option Dot), (∀ x ∈ K, cu x.1 = true ∧ iw ctx x.1.dot = true) → ww (aQ K) → (∀ d, p = some d → ∀ x ∈ K, cZ d x.1.dot = true) → bI ctx p K = 0
 | [], p, _, _, _ => wY _ _
 | x :: K, p, h1, h2, h3 => by
   obtain ⟨g1, g2⟩ := List.pairwise_cons.1 h2
   obtain ⟨q1, q2⟩ := h1 x List.mem_cons_self
   have hn : jh p x.1.dot = true := by
     cases p with
     | none => rfl
     | some d => exact h3 d rfl x List.mem_cons_self
   unfold bI
   rw [if_pos q1, if_pos hn, if_pos q2]
   exact ut ctx K _ (fun z hz => h1 z (List.mem_cons_of_mem _ hz)) g2 fun d hd z hz => by
     cases hd
     exact g1 z.1 (List.mem_map_of_mem hz)
theorem tK : ∀ (l : List Dot) (p : Option Dot), (∀ d ∈ l, bu d = true) → SrtD l → (∀ d, p = some d → ∀ x ∈ l, cZ d x = true) → dh p l = 0
 | [], p, _, _, _ => wH _
 | x :: l, p, h1, h2, h3 => by
   obtain ⟨g1, g2⟩ := List.pairwise_cons.1 h2
   have hn : jh p x = true := by
     cases p with
     | none => rfl
     | some d => exact h3 d rfl x List.mem_cons_self
   unfold dh
   rw [if_pos (h1 x List.mem_cons_self), if_pos hn]
   exact tK l _ (fun z hz => h1 z (List.mem_cons_of_mem _ hz)) g2 fun d hd z hz => by
     cases hd
     exact g1 z hz
theorem SGood.loads {s : MS} {n : Nat} (h : SGood s n) (hn : n ≤ 60) {ctx : List Dot} {K : List bg} {dead : List Dot} (hc : ctx = s.ctx) (hK : aQ K = bP s) (hd : dead = sortD s.dead) : fD ctx K dead = 0 := by
 have h1 := h.ctx
 have h2 := h.dead
 have hm : bf ctx = 0 := by rw [hc]; exact h.inv.marks (by omega)
 have hkl : K.length ≤ 2048 := by rw [← aJ, hK, fJ h.nd]; exact h.inv.len
 have hdl : dead.length ≤ 65536 := by rw [hd]; have := fG s.dead; omega
 have hf : bI ctx none K = 0 := ut ctx K none (fun x hx => by
  have h9 : x.1 ∈ bP s := by rw [← hK]; exact List.mem_map_of_mem hx
  obtain ⟨z, hz, e⟩ := (dU h.nd).1 h9
  rw [← e, hc]
  exact h.inv.kept z hz) (by rw [hK]; exact kP h.nd) (fun d hd => by cases hd)
 have hr : dh none dead = 0 := tK dead none (fun d h9 => by rw [hd, df] at h9; exact h.inv.dead d h9) (by rw [hd]; exact iI _) (fun d hd => by cases hd)
 unfold fD or2
 rw [if_pos hm, if_neg (by omega), if_pos hf]
 exact hr
theorem SGood.rel {s : MS} {n : Nat} (h : SGood s n) : Rel s ⟨s.ctx, bP s, sortD s.dead⟩ := ⟨h.nd, rfl, rfl, rfl⟩
theorem JR {n : Nat} {ls : List bg} (h : ig n (aQ ls) = true) : ls.length ≤ n ∧ iq ls := by
 unfold ig at h
 simp only [Bool.and_eq_true, decide_eq_true_eq, List.all_eq_true] at h
 exact ⟨by rw [← aJ]; exact h.1, fun x hx => EN (h.2 x.1 (List.mem_map_of_mem hx))⟩
theorem Merged.come {s : MS} {l : List Ev} {s' : MS} {n : Nat} {f : Int} (h : Merged s l s' n f) : ∀ x ∈ s'.K, (∃ y ∈ s.K, y.1 = x.1) ∨ x.1 ∈ l := by
 induction h with
 | nil => exact fun x hx => Or.inl ⟨x, hx, rfl⟩
 | snoc _ hap ih =>
   intro x hx
   split at hap
   ·obtain ⟨a, c, hk⟩ := hap.kept
    rcases List.mem_cons.1 (hk.mem_iff.1 hx) with rfl | hx
    ·exact Or.inr (by simp)
    ·exact (ih x hx).imp id fun h => by simp [h]
   ·rw [hap] at hx
    exact (ih x hx).imp id fun h => by simp [h]
theorem MadeIn.kept {w w' : World} {m : Nat} {b : MB} {s : MS} {y : RMIt} {l : List Ev} {base : Nat} (h : MadeIn w m b s y l base) (hb : Below w.heap.size w w') : MadeIn w' m b s y l base :=
 ⟨h.map.kept_w hb, h.inv, h.ref.keep hb, h.rel, h.good, h.ctx, h.dead, h.low, h.merged⟩
theorem MadeIn.len {w : World} {m : Nat} {b : MB} {s : MS} {y : RMIt} {l : List Ev} {base : Nat} (h : MadeIn w m b s y l base) : s.K.length ≤ l.length := by
 have h1 := h.good.kept
 rwa [h.rel.kept, fJ h.rel.nd] at h1
theorem MadeIn.full {w : World} {m : Nat} {b : MB} {s : MS} {y : RMIt} {l : List Ev} {base : Nat} (h : MadeIn w m b s y l base) : FullM s := by
 obtain ⟨n, f, hM⟩ := h.merged
 exact hM.full FullM.empty
/-- the context, told for one who holds the map -/
theorem I4 {m : Nat} {b : MB} {s : MS} (w : World) (h : MpIn w m b s) (hi : MInv s) (hl : s.ctx.length ≤ 4096) :
 Calls Tryz.prog 39 #[.pointer (some ⟨m, 0, none⟩)] w fun e w' => ∃ a c, e = .returned (.slice a s.ctx.length c) ∧ DotsIn w' a s.ctx ∧ Below w.heap.size w w' := by
 refine (Dq w h hi.ctx (by omega)).mono ?_
 rintro e w' ⟨x, rfl, hown, hb⟩
 obtain ⟨a, c, rfl, hd⟩ := Bq hown
 exact ⟨a, c, rfl, hd, hb⟩
end Go.Proofs.YtdlmbflhbecggaaGreat
