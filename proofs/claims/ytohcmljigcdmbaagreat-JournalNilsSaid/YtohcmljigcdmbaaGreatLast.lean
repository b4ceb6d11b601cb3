/- A region whose order is open, and whose last operations turn what the others read: the reads may be taken first. Conditions: none. -/
import Derived.Deep.RegionHeld
import Derived.Deep.RegionHeld3
set_option linter.unusedSimpArgs false
set_option linter.unusedVariables false
set_option linter.unnecessarySimpa false
set_option maxHeartbeats 16000000
set_option maxRecDepth 100000
namespace Go.Proofs.YtohcmljigcdmbaaGreat
open Go
section
variable {P : Program} {md : Region.Mode} {ops : Array Oper} {Q : Exit → Act → World → Prop} {S : World → Prop} {L : List Nat}
/-- one of the late operations has come up -/
def lateIn (L : List Nat) (listed : Array Bool) : Bool := L.any fun l => listed.getD l false
/-- whatever has come up, so has all that it waits for -/
def closedR (md : Region.Mode) (ops : Array Oper) (listed : Array Bool) : Bool :=
 (List.range ops.size).all fun k => !listed.getD k false || ((ops[k]?).map (·.after.all fun e => !Region.binds md e || listed.getD e.on false)).getD true
/-- j waits for i, directly or not -/
def reachesR (md : Region.Mode) (ops : Array Oper) : Nat → Nat → Nat → Bool
 | 0, _, _ => false
 | f + 1, j, i => ((ops[j]?).map (·.after.any fun e => Region.binds md e && (e.on == i || reachesR md ops f e.on i))).getD false
def wpAnyL (P : Program) (md : Region.Mode) (ops : Array Oper) (Q : Exit → Act → World → Prop) (S : World → Prop) (L : List Nat) : Nat → Array Bool → Act → World → Prop
 | 0, listed, a, w => Region.ready md ops listed = [] ∧ Q .normal a w
 | fuel + 1, listed, a, w =>
   (Region.ready md ops listed = [] → Q .normal a w) ∧
   ∀ i ∈ Region.ready md ops listed, wpOp P ops Q i (fun a' w' => (lateIn L (listed.setIfInBounds i true) = true ∨ S w') ∧ wpAnyL P md ops Q S L fuel (listed.setIfInBounds i true) a' w') a w
theorem wpAny_of_late : ∀ (fuel : Nat) (listed : Array Bool) (a : Act) (w : World), wpAnyL P md ops Q S L fuel listed a w → wpAny P md ops Q fuel listed a w
 | 0, _, _, _, h => h
 | fuel + 1, _, _, _, h => ⟨h.1, fun i hi => wpOp_mono (fun a' w' h' => wpAny_of_late fuel _ a' w' h'.2) (h.2 i hi)⟩
theorem closedR_dep {listed : Array Bool} (hc : closedR md ops listed = true) {j : Nat} {o : Oper} (ho : ops[j]? = some o) (hj : listed.getD j false = true) : ∀ e ∈ o.after, Region.binds md e = true → listed.getD e.on false = true := by
 intro e he hb
 have hlt := (Array.getElem?_eq_some_iff.1 ho).1
 have := (List.all_eq_true.1 hc) j (List.mem_range.2 hlt)
 rw [hj, ho] at this
 simp only [Bool.not_true, Option.map_some, Option.getD_some, Bool.false_or, Array.all_eq_true_iff_forall_mem] at this
 have h1 := this e he
 rw [hb] at h1
 simpa using h1
theorem reachesR_spec {f j i : Nat} (h : reachesR md ops (f + 1) j i = true) : ∃ o, ops[j]? = some o ∧ ∃ e ∈ o.after, Region.binds md e = true ∧ (e.on = i ∨ reachesR md ops f e.on i = true) := by
 unfold reachesR at h
 cases ho : ops[j]? with
 | none => rw [ho] at h; simp at h
 | some o =>
   rw [ho] at h
   simp only [Option.map_some, Option.getD_some, Array.any_eq_true'] at h
   obtain ⟨e, he, h⟩ := h
   simp only [Bool.and_eq_true, Bool.or_eq_true, beq_iff_eq] at h
   exact ⟨o, rfl, e, he, h.1, h.2⟩
theorem not_listed {listed : Array Bool} (hc : closedR md ops listed = true) {i : Nat} (hi : listed.getD i false = false) : ∀ {f j : Nat}, reachesR md ops f j i = true → listed.getD j false = false
 | 0, _, h => by simp [reachesR] at h
 | f + 1, j, h => by
   obtain ⟨o, ho, e, he, hb, h2⟩ := reachesR_spec h
   cases hj : listed.getD j false with
   | false => rfl
   | true =>
     have h3 := closedR_dep hc ho hj e he hb
     rcases h2 with rfl | h2
     ·rw [hi] at h3; cases h3
     ·rw [not_listed hc hi h2] at h3; cases h3
theorem not_ready {listed : Array Bool} (hc : closedR md ops listed = true) {i : Nat} (hi : listed.getD i false = false) {f j : Nat} (h : reachesR md ops f j i = true) : j ∉ Region.ready md ops listed := by
 intro hr
 obtain ⟨_, o, ho, hall⟩ := mem_ready.1 hr
 cases f with
 | zero => simp [reachesR] at h
 | succ f =>
   obtain ⟨o', ho', e, he, hb, h2⟩ := reachesR_spec h
   obtain rfl : o = o' := by rw [ho] at ho'; exact Option.some.inj ho'
   have h3 := hall e he hb
   rcases h2 with rfl | h2
   ·rw [hi] at h3; cases h3
   ·rw [not_listed hc hi h2] at h3; cases h3
theorem closedR_set {listed : Array Bool} (hc : closedR md ops listed = true) {j : Nat} (hr : j ∈ Region.ready md ops listed) : closedR md ops (listed.setIfInBounds j true) = true := by
 unfold closedR
 rw [List.all_eq_true]
 intro k hk
 cases ho : ops[k]? with
 | none => simp
 | some o =>
   simp only [Option.map_some, Option.getD_some, Bool.or_eq_true, Bool.not_eq_true', Array.all_eq_true_iff_forall_mem]
   by_cases hkl : (listed.setIfInBounds j true).getD k false = true
   ·right
    intro e he
    cases hb : Region.binds md e with
    | false => left; rfl
    | true =>
      right
      refine getD_set_true ?_
      by_cases hkj : j = k
      ·subst hkj
       obtain ⟨_, o', ho', hall⟩ := mem_ready.1 hr
       obtain rfl : o = o' := by rw [ho] at ho'; exact Option.some.inj ho'
       exact hall e he hb
      ·have : listed.getD k false = true := by
        have h1 : (listed.setIfInBounds j true).getD k false = listed.getD k false := by simp [Array.getElem?_setIfInBounds_ne hkj]
        rwa [h1] at hkl
       exact closedR_dep hc ho this e he hb
   ·left
    exact Bool.eq_false_iff.2 hkl
theorem getD_false_of {listed : Array Bool} {i : Nat} (h : listed.getD i true = false) : listed.getD i false = false := by
 rcases Nat.lt_or_ge i listed.size with h' | h'
 ·simp [h'] at h ⊢; exact h
 ·simp [Array.getElem?_eq_none h'] at h
theorem getD_set_other {listed : Array Bool} {j l : Nat} (h : j ≠ l) : (listed.setIfInBounds j true).getD l false = listed.getD l false := by simp [Array.getElem?_setIfInBounds_ne h]
theorem wpAnyL_first {i : Nat} {oi : Oper} {v : Value} (hi : ops[i]? = some oi) (hsel : ∀ (j : Nat) (o : Oper) cs b, ops[j]? = some o → o.op ≠ .select cs b)
 (hQ : ∀ c a w, Q (.panic c) (a.put oi.dst v) w → Q (.panic c) a w) (hL : ∀ l ∈ L, l ≠ i ∧ ∃ f, reachesR md ops f l i = true) :
 ∀ (fuel : Nat) (listed : Array Bool) (a : Act) (w : World), closedR md ops listed = true →
   (∀ j oj, ops[j]? = some oj → j ≠ i → listed.getD j true = false → (∀ e ∈ oj.after, Region.binds md e = true → e.on ≠ i) → oi.apart ops oj = true) →
   i ∈ Region.ready md ops listed → YieldsIf P ops S oi v a → S w →
   wpAnyL P md ops Q S L fuel (listed.setIfInBounds i true) (a.put oi.dst v) w → wpAnyL P md ops Q S L (fuel + 1) listed a w := by
 intro fuel
 induction fuel with
 | zero =>
   intro listed a w hc _ hr hy hS H
   refine ⟨fun h => (by rw [h] at hr; cases hr), fun j hj => ?_⟩
   by_cases hji : j = i
   ·subst hji; exact hy.wpOp hi hS ⟨Or.inr hS, H⟩
   ·have := ready_mono hj hji
    rw [H.1] at this
    cases this
 | succ fuel ih =>
   intro listed a w hc hfree hr hy hS H
   refine ⟨fun h => (by rw [h] at hr; cases hr), fun j hj => ?_⟩
   by_cases hji : j = i
   ·subst hji; exact hy.wpOp hi hS ⟨Or.inr hS, H⟩
   ·have hil := getD_false_of (mem_ready.1 hr).1
    have hjL : ∀ l ∈ L, l ≠ j := fun l hl e => by
        obtain ⟨_, f, hf⟩ := hL l hl
        exact not_ready hc hil hf (e ▸ hj)
    have hlate : lateIn L ((listed.setIfInBounds i true).setIfInBounds j true) = false := by
        unfold lateIn
        rw [List.any_eq_false]
        intro l hl
        obtain ⟨hli, f, hf⟩ := hL l hl
        rw [getD_set_other (hjL l hl).symm, getD_set_other hli.symm, not_listed hc hil hf]
        simp
    have h1 := H.2 j (ready_mono hj hji)
    obtain ⟨hjun, oj, hoj, hall⟩ := mem_ready.1 hj
    have hnot : ∀ e ∈ oj.after, Region.binds md e = true → e.on ≠ i := fun e he hb heq => by
        have h1 := hall e he hb
        rw [heq, hil] at h1
        cases h1
    have h2 := wpOp_putIf hoj (hfree j oj hoj hji hjun hnot) (fun cs b => hsel i oi cs b hi) (fun cs b => hsel j oj cs b hoj) hQ hy h1
    have hfree' : ∀ k ok, ops[k]? = some ok → k ≠ i → (listed.setIfInBounds j true).getD k true = false →
     (∀ e ∈ ok.after, Region.binds md e = true → e.on ≠ i) → oi.apart ops ok = true := fun k ok hk hki hun hno => by
        refine hfree k ok hk hki ?_ hno
        by_cases hjk : j = k
        ·subst hjk; exact hjun
        ·rw [getD_set_ne true hjk] at hun; exact hun
    refine wpOp_mono (fun a' w' h3 => ?_) h2
    have hS' : S w' := by
        rcases h3.2.1 with h4 | h4
        ·rw [hlate] at h4; cases h4
        ·exact h4
    refine ⟨Or.inr hS', ih (listed.setIfInBounds j true) a' w' (closedR_set hc hj) hfree' (ready_mono hr (Ne.symm hji)) h3.1 hS' ?_⟩
    rw [Array.setIfInBounds_comm _ _ hji]
    exact h3.2.2
theorem wpAnyL_take {i : Nat} {oi : Oper} {v : Value} {fuel : Nat} {listed : Array Bool} {a : Act} {w : World} (hi : ops[i]? = some oi)
 (hs : Region.noSelect ops = true) (hf : Region.free md ops listed i = true) (hr : (Region.ready md ops listed).contains i = true) (hc : closedR md ops listed = true)
 (hL : (L.all fun l => (l != i) && reachesR md ops ops.size l i) = true)
 (hQ : ∀ c a w, Q (.panic c) (a.put oi.dst v) w → Q (.panic c) a w) (hy : YieldsIf P ops S oi v a) (hS : S w)
 (h : wpAnyL P md ops Q S L fuel (listed.setIfInBounds i true) (a.put oi.dst v) w) : wpAnyL P md ops Q S L (fuel + 1) listed a w :=
 wpAnyL_first hi (Region.noSelect_spec hs) hQ (fun l hl => by have := (List.all_eq_true.1 hL) l hl; simp only [Bool.and_eq_true, bne_iff_ne] at this; exact ⟨this.1, _, this.2⟩) fuel listed a w hc (Region.free_spec hi hf) (by simpa using hr) hy hS h
theorem tL {op : Op} {ty : TypeId} {ps : String} {af : Array Edge} {gd : Option (Nat × Bool)} {v : Value} {fuel : Nat} {listed : Array Bool} {a : Act} {w : World} (i d : Nat) (hi : ops[i]? = some ⟨some d, op, ty, ps, af, gd⟩) (hy : YieldsIf P ops S ⟨some d, op, ty, ps, af, gd⟩ v a)
 (h : wpAnyL P md ops Q S L fuel (listed.setIfInBounds i true) (a.put (some d) v) w) (hs : Region.noSelect ops = true := by kernel_rfl) (hf : Region.free md ops listed i = true := by kernel_rfl) (hr : (Region.ready md ops listed).contains i = true := by kernel_rfl) (hc : closedR md ops listed = true := by kernel_rfl)
 (hL : (L.all fun l => (l != i) && reachesR md ops ops.size l i) = true := by kernel_rfl) (hQ : ∀ c a w, Q (.panic c) (a.put (some d) v) w → Q (.panic c) a w := by exact fun _ _ _ h => h) (hS : S w := by assumption) : wpAnyL P md ops Q S L (fuel + 1) listed a w := wpAnyL_take hi hs hf hr hc hL hQ hy hS h
theorem wpAnyL_done {listed : Array Bool} {a : Act} {w : World} (hr : Region.ready md ops listed = []) (h : Q .normal a w) : ∀ fuel, wpAnyL P md ops Q S L fuel listed a w
 | 0 => ⟨hr, h⟩
 | _ + 1 => ⟨fun _ => h, by rw [hr]; simp⟩
/-- one operation alone may come up -/
theorem wpAnyL_one {i : Nat} {o : Oper} {fuel : Nat} {listed : Array Bool} {a : Act} {w : World} (hr : Region.ready md ops listed = [i]) (ho : ops[i]? = some o)
 (h : ∀ K' : Act → World → Prop, Shut (∀ a w, (lateIn L (listed.setIfInBounds i true) = true ∨ S w) → wpAnyL P md ops Q S L fuel (listed.setIfInBounds i true) a w → K' a w) → if Region.wanted o (yielded ops a.tmps) = true then Oper.wp P o a w K' Q else K' (a.put o.dst undef) w) :
 wpAnyL P md ops Q S L (fuel + 1) listed a w := by
 refine ⟨fun h0 => absurd (hr ▸ h0) (by simp), ?_⟩
 rw [hr]
 intro j hj
 obtain rfl : j = i := by simpa using hj
 exact wpOp_step ho (fun K' hK => h K' (fun a w hS hW => hK a w ⟨hS, hW⟩))
theorem wp_region_late {id : Nat} {a : Act} {w : World} (S : World → Prop) (L : List Nat) (hm : P.follows .mixedOrders = true) (h : wpAnyL P .any ops Q S L ops.size (Array.replicate ops.size false) a w.drew) : (Code.region id ops true).wp P Q a w :=
 wp_region_any hm (wpAny_of_late _ _ _ _ h)
end
section
variable {P : Program} {md : Region.Mode} {ops : Array Oper} {Q : Exit → Act → World → Prop} {S : World → Prop}
theorem tH {op : Op} {ty : TypeId} {ps : String} {af : Array Edge} {gd : Option (Nat × Bool)} {v : Value} {fuel : Nat} {listed : Array Bool} {a : Act} {w : World} (i d : Nat) (hi : ops[i]? = some ⟨some d, op, ty, ps, af, gd⟩) (hy : YieldsIf P ops S ⟨some d, op, ty, ps, af, gd⟩ v a)
 (h : wpAnyH P md ops Q S fuel (listed.setIfInBounds i true) (a.put (some d) v) w) (hs : Region.noSelect ops = true := by kernel_rfl) (hf : Region.free md ops listed i = true := by kernel_rfl) (hr : (Region.ready md ops listed).contains i = true := by kernel_rfl)
 (hQ : ∀ c a w, Q (.panic c) (a.put (some d) v) w → Q (.panic c) a w := by exact fun _ _ _ h => h) (hS : S w := by assumption) : wpAnyH P md ops Q S (fuel + 1) listed a w := wpAnyH_take hi hs hf hr hQ hy hS h
theorem rH {op : Op} {ty : TypeId} {ps : String} {af : Array Edge} {gd : Option (Nat × Bool)} {fuel : Nat} {listed : Array Bool} {a : Act} {w : World} (i d : Nat) (ho : ops[i]? = some ⟨some d, op, ty, ps, af, gd⟩)
 (h : ∀ K' : Act → World → Prop, Shut (∀ a w, S w → (S w → wpAnyH P md ops Q S fuel (listed.setIfInBounds i true) a w) → K' a w) → if Region.wanted ⟨some d, op, ty, ps, af, gd⟩ (yielded ops a.tmps) = true then Oper.wp P ⟨some d, op, ty, ps, af, gd⟩ a w K' Q else K' (a.put (some d) undef) w)
 (hr : Region.ready md ops listed = [i] := by kernel_rfl) : wpAnyH P md ops Q S (fuel + 1) listed a w := wpAnyH_ready hr (by simp) (AllReadyH.cons ho h AllReadyH.nil)
end
end Go.Proofs.YtohcmljigcdmbaaGreat
