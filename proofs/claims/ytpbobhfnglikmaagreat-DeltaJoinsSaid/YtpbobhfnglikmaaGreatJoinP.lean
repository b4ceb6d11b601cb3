/- The reference's map: events in another order, plainly. Conditions: none. -/
import Derived.Test.YtpbobhfnglikmaaGreatRelP
set_option linter.unusedSimpArgs false
set_option linter.unusedVariables false
set_option linter.unnecessarySimpa false
set_option maxHeartbeats 16000000
set_option maxRecDepth 100000
namespace Go.Proofs.YtpbobhfnglikmaaGreat
open Go.RowKit
theorem getM_pos {l : List Dot} {a : Actor} (h : getM l a ≠ 0) : (⟨a, getM l a⟩ : Dot) ∈ l := by
 have h0 : getM l a = (match l.find? fun d => decide (d.a = a) with | some d => d.seq | none => 0) := rfl
 cases hf : l.find? fun d => decide (d.a = a) with
 | none => rw [hf] at h0; exact absurd h0 h
 | some d =>
   rw [hf] at h0
   have h1 : d.a = a := by simpa using List.find?_some hf
   have h2 := List.mem_of_find?_eq_some hf
   rw [h0, ← h1]
   exact h2
theorem dotOk_seq {d : Dot} (h : dotOk d = true) : d.seq ≠ 0 := by
 simp only [dotOk, Bool.and_eq_true, decide_eq_true_eq] at h
 omega
theorem srtM_ext {l m : List Dot} (hl : SrtM l) (hm : SrtM m) (ol : ∀ d ∈ l, dotOk d = true) (om : ∀ d ∈ m, dotOk d = true) (h : ∀ a, getM l a = getM m a) : l = m := by
 have key : ∀ {l m : List Dot}, SrtM l → (∀ d ∈ l, dotOk d = true) → (∀ a, getM l a = getM m a) → ∀ x, x ∈ l → x ∈ m := fun {l m} hl ol h x hx => by
  have h1 := getM_mem hl hx
  rw [h] at h1
  have h2 := getM_pos (l := m) (a := x.a) (by rw [h1]; exact dotOk_seq (ol x hx))
  rwa [h1] at h2
 exact srt_ext (lt := fun x y : Dot => actorLt x.a y.a) (fun x => actorLt_irrefl x.a) (fun _ _ _ => actorLt_trans) hl hm fun x => ⟨key hl ol h x, key hm om (fun a => (h a).symm) x⟩
/-- what every map of the reference has -/
structure RInv (r : RM) : Prop where
 srt : SrtM r.ctx
 ok : ∀ d ∈ r.ctx, dotOk d = true
 kept : SrtE r.kept
 has : ∀ x ∈ r.kept, hasM r.ctx x.dot = true
theorem RInv.empty : RInv RM.empty := ⟨List.Pairwise.nil, fun d hd => (nomatch hd), List.Pairwise.nil, fun d hd => (nomatch hd)⟩
theorem rmOk_parts {r : RM} {e : Ev} (h : rmOk r e = true) : evOk e = true ∧ hasM r.ctx e.dot = false ∧ getM r.ctx e.dot.a + 1 = e.dot.seq ∧ r.kept.length < 2048 := by
 unfold rmOk at h
 simpa [Bool.and_eq_true] using h
theorem rmAp_yes {r : RM} {e : Ev} (h : RInv r) (ho : rmOk r e = true) : rmAp r e = ⟨setM r.ctx e.dot.a e.dot.seq, insE e r.kept, sortD (r.dead ++ e.over)⟩ := by
 unfold rmAp
 rw [ho, if_pos rfl, rsetM_srt h.srt]
theorem rmAp_no {r : RM} {e : Ev} (ho : rmOk r e = false) : rmAp r e = r := by
 unfold rmAp
 rw [ho, if_neg (by decide)]
theorem RInv.ap {r : RM} (h : RInv r) (e : Ev) : RInv (rmAp r e) := by
 cases ho : rmOk r e with
 | false => rw [rmAp_no ho]; exact h
 | true =>
   obtain ⟨q1, q2, q3, q4⟩ := rmOk_parts ho
   have hde : dotOk e.dot = true := (evOk_parts q1).1
   rw [rmAp_yes h ho]
   refine ⟨setM_srt h.srt, fun d hd => ?_, insE_srt h.kept fun x hx e9 => ?_, fun x hx => ?_⟩
   ·rcases setM_mem hd with rfl | hd
    ·exact hde
    ·exact h.ok d hd
   ·have := h.has x hx
    rw [e9, q2] at this
    cases this
   ·show hasM (setM r.ctx e.dot.a e.dot.seq) x.dot = true
    rcases insE_mem.1 hx with rfl | hx
    ·rw [hasM_set hde q3, decide_eq_true rfl, Bool.or_true]
    ·have h1 := h.has x hx
     have h2 : dotOk x.dot = true := by unfold hasM at h1; simp only [Bool.and_eq_true] at h1; exact h1.1
     rw [hasM_set h2 q3, h1, Bool.true_or]
theorem RInv.fold {r : RM} (h : RInv r) : ∀ l : List Ev, RInv (l.foldl rmAp r)
 | [] => h
 | e :: l => (h.ap e).fold l
/-- a reference's map that events alone have made -/
structure Pure (r : RM) : Prop where
 inv : RInv r
 full : ∀ d, hasM r.ctx d = true → ∃ e ∈ r.kept, e.dot = d
 dead : r.dead = sortD (r.kept.flatMap fun e => e.over)
 ok : ∀ e ∈ r.kept, evOk e = true
theorem hasM_zero {d : Dot} : hasM [] d = false := by
 have h1 : hasM [] d = (dotOk d && decide (d.seq ≤ 0)) := rfl
 rw [h1, Bool.and_eq_false_iff]
 by_cases h : dotOk d = true
 ·right
  simp only [dotOk, Bool.and_eq_true, decide_eq_true_eq] at h
  exact decide_eq_false (by omega)
 ·left
  simpa using h
theorem Pure.empty : Pure RM.empty := ⟨RInv.empty, fun d h => absurd h (by rw [show RM.empty.ctx = [] from rfl, hasM_zero]; decide), rfl, fun e he => absurd he List.not_mem_nil⟩
theorem Pure.ap {r : RM} (h : Pure r) (e : Ev) : Pure (rmAp r e) := by
 cases ho : rmOk r e with
 | false => rw [rmAp_no ho]; exact h
 | true =>
   obtain ⟨q1, q2, q3, q4⟩ := rmOk_parts ho
   have hi := h.inv.ap e
   rw [rmAp_yes h.inv ho] at hi ⊢
   refine ⟨hi, fun d hd => ?_, ?_, fun x hx => ?_⟩
   ·have hdo := (hasM_ok hd).1
    rw [hasM_set hdo q3, Bool.or_eq_true, decide_eq_true_eq] at hd
    rcases hd with hd | rfl
    ·obtain ⟨x, hx, e9⟩ := h.full d hd
     exact ⟨x, insE_mem.2 (Or.inr hx), e9⟩
    ·exact ⟨e, insE_mem.2 (Or.inl rfl), rfl⟩
   ·refine srtD_ext (sortD_srt _) (sortD_srt _) fun d => ?_
    rw [sortD_mem, sortD_mem, List.mem_append, h.dead, sortD_mem, List.mem_flatMap, List.mem_flatMap]
    constructor
    ·rintro (⟨x, hx, h1⟩ | h1)
     ·exact ⟨x, insE_mem.2 (Or.inr hx), h1⟩
     ·exact ⟨e, insE_mem.2 (Or.inl rfl), h1⟩
    ·rintro ⟨x, hx, h1⟩
     rcases insE_mem.1 hx with rfl | hx
     ·exact Or.inr h1
     ·exact Or.inl ⟨x, hx, h1⟩
   ·rcases insE_mem.1 hx with rfl | hx
    ·exact q1
    ·exact h.ok x hx
theorem Pure.fold {r : RM} (h : Pure r) : ∀ l : List Ev, Pure (l.foldl rmAp r)
 | [] => h
 | e :: l => Pure.fold (h.ap e) l
theorem Pure.ext {r q : RM} (h : Pure r) (k : Pure q) (he : ∀ e, e ∈ r.kept ↔ e ∈ q.kept) : r = q := by
 have hk : r.kept = q.kept := srtE_ext h.inv.kept k.inv.kept he
 have hd : r.dead = q.dead := by rw [h.dead, k.dead, hk]
 have key : ∀ {r q : RM}, Pure r → Pure q → r.kept = q.kept → ∀ a, getM r.ctx a ≤ getM q.ctx a := fun {r q} h k hk a => by
  by_cases h0 : getM r.ctx a = 0
  ·rw [h0]
   exact (getM_range k.inv.ok a).1
  ·have h1 := getM_pos h0
   have h2 := h.inv.ok _ h1
   have h3 : hasM r.ctx ⟨a, getM r.ctx a⟩ = true := by
        unfold hasM
        rw [h2, Bool.true_and, decide_eq_true_eq]
        exact Int.le_refl _
   obtain ⟨x, hx, e9⟩ := h.full _ h3
   rw [hk] at hx
   have h4 := k.inv.has x hx
   rw [e9] at h4
   exact (hasM_ok h4).2
 have hc : r.ctx = q.ctx := srtM_ext h.inv.srt k.inv.srt h.inv.ok k.inv.ok fun a => Int.le_antisymm (key h k hk a) (key k h hk.symm a)
 obtain ⟨a, b, c⟩ := r
 obtain ⟨d, e, f⟩ := q
 simp only at hk hd hc
 subst hk hd hc
 rfl
/-- a map and the first events p of another one, merged into it -/
structure JAt (v : RM) (p : List Ev) (R : RM) : Prop where
 pure : Pure R
 has : ∀ d, hasM R.ctx d = true ↔ hasM v.ctx d = true ∨ d ∈ p.map (·.dot)
 kept : ∀ e, e ∈ R.kept ↔ e ∈ v.kept ∨ (e ∈ p ∧ hasM v.ctx e.dot = false)
 len : R.kept.length ≤ v.kept.length + p.length
theorem rmOk_has {r : RM} {e : Ev} (h : hasM r.ctx e.dot = true) : rmOk r e = false := by
 unfold rmOk
 rw [h]
 simp
theorem JAt.step {v w R : RM} {p r : List Ev} {e : Ev} (hw : Pure w) (hl : v.kept.length + w.kept.length < 2048) (hp : p ++ e :: r = w.kept) (h : JAt v p R) : JAt v (p ++ [e]) (rmAp R e) := by
 have hs : SrtE (p ++ e :: r) := by rw [hp]; exact hw.inv.kept
 have he : e ∈ w.kept := by rw [← hp]; simp
 have hnp : ∀ x ∈ p, dotLt x.dot e.dot = true := fun x hx => (List.pairwise_append.1 hs).2.2 x hx e List.mem_cons_self
 have hnr : ∀ x ∈ r, dotLt e.dot x.dot = true := fun x hx => (List.pairwise_cons.1 (List.pairwise_append.1 hs).2.1).1 x hx
 have hnot : e.dot ∉ p.map (·.dot) := fun hm => by
  obtain ⟨x, hx, e9⟩ := List.mem_map.1 hm
  have h1 := hnp x hx
  rw [show x.dot = e.dot from e9, dotLt_irrefl] at h1
  cases h1
 have hwe := hw.inv.has e he
 have hdo := (hasM_ok hwe).1
 cases hh : hasM R.ctx e.dot with
 | true =>
   rw [rmAp_no (rmOk_has hh)]
   have hv : hasM v.ctx e.dot = true := ((h.has _).1 hh).resolve_right hnot
   refine ⟨h.pure, fun d => ?_, fun x => ?_, by rw [List.length_append]; have := h.len; omega⟩
   ·rw [h.has d, List.map_append, List.mem_append]
    constructor
    ·rintro (h1 | h1)
     ·exact Or.inl h1
     ·exact Or.inr (Or.inl h1)
    ·rintro (h1 | h1 | h1)
     ·exact Or.inl h1
     ·exact Or.inr h1
     ·have : d = e.dot := by simpa using h1
      rw [this]
      exact Or.inl hv
   ·rw [h.kept x, List.mem_append]
    constructor
    ·rintro (h1 | ⟨h1, h2⟩)
     ·exact Or.inl h1
     ·exact Or.inr ⟨Or.inl h1, h2⟩
    ·rintro (h1 | ⟨h1 | h1, h2⟩)
     ·exact Or.inl h1
     ·exact Or.inr ⟨h1, h2⟩
     ·have : x = e := by simpa using h1
      rw [this, hv] at h2
      cases h2
 | false =>
   have hgl : getM R.ctx e.dot.a < e.dot.seq := by
    unfold hasM at hh
    rw [hdo, Bool.true_and, decide_eq_false_iff_not] at hh
    omega
   have hg0 := (getM_range h.pure.inv.ok e.dot.a).1
   have hsq : getM R.ctx e.dot.a + 1 = e.dot.seq := by
    by_cases h1 : e.dot.seq = 1
    ·omega
    ·have hd2 : dotOk e.dot = true := hdo
     have hpos : 1 ≤ e.dot.seq := by
         unfold dotOk at hd2
         simp only [Bool.and_eq_true, decide_eq_true_eq] at hd2
         exact hd2.2.1
     have hdp : dotOk ⟨e.dot.a, e.dot.seq - 1⟩ = true := by
         unfold dotOk at hd2 ⊢
         simp only [Bool.and_eq_true, decide_eq_true_eq] at hd2 ⊢
         exact ⟨hd2.1, by omega, by omega⟩
     have hwp : hasM w.ctx ⟨e.dot.a, e.dot.seq - 1⟩ = true := by
         unfold hasM
         rw [hdp, Bool.true_and, decide_eq_true_eq]
         have h9 : e.dot.seq ≤ getM w.ctx e.dot.a := (hasM_ok hwe).2
         show e.dot.seq - 1 ≤ getM w.ctx e.dot.a
         omega
     obtain ⟨x, hx, e9⟩ := hw.full _ hwp
     have hlt : dotLt x.dot e.dot = true := by
         rw [e9]
         have := dotLt_seq (a := e.dot.a) (m := e.dot.seq - 1) (n := e.dot.seq) (by omega)
         exact this
     rw [← hp] at hx
     have hxp : x ∈ p := by
         rcases List.mem_append.1 hx with hx | hx
         ·exact hx
         ·exfalso
          rcases List.mem_cons.1 hx with rfl | hx
          ·rw [dotLt_irrefl] at hlt
           cases hlt
          ·have h5 := dotLt_trans hlt (hnr x hx)
           rw [dotLt_irrefl] at h5
           cases h5
     have hR : hasM R.ctx ⟨e.dot.a, e.dot.seq - 1⟩ = true := (h.has _).2 (Or.inr (List.mem_map.2 ⟨x, hxp, e9⟩))
     have h6 : e.dot.seq - 1 ≤ getM R.ctx e.dot.a := (hasM_ok hR).2
     omega
   have hwl : w.kept.length = p.length + (r.length + 1) := by rw [← hp, List.length_append, List.length_cons]
   have ho : rmOk R e = true := by
    unfold rmOk
    rw [hw.ok e he, hh, decide_eq_true hsq, decide_eq_true (by have := h.len; omega : R.kept.length < 2048)]
    rfl
   have hv : hasM v.ctx e.dot = false := by
    cases hv : hasM v.ctx e.dot with
    | false => rfl
    | true =>
      rw [(h.has _).2 (Or.inl hv)] at hh
      cases hh
   have hpu := h.pure.ap e
   rw [rmAp_yes h.pure.inv ho] at hpu ⊢
   refine ⟨hpu, fun d => ?_, fun x => ?_, ?_⟩
   ·show hasM (setM R.ctx e.dot.a e.dot.seq) d = true ↔ _
    rw [List.map_append, List.mem_append]
    constructor
    ·intro h1
     have hdd := (hasM_ok h1).1
     rw [hasM_set hdd hsq, Bool.or_eq_true, decide_eq_true_eq] at h1
     rcases h1 with h1 | rfl
     ·rcases (h.has d).1 h1 with h2 | h2
      ·exact Or.inl h2
      ·exact Or.inr (Or.inl h2)
     ·exact Or.inr (Or.inr (by simp))
    ·intro h1
     have hdd : dotOk d = true ∧ (hasM R.ctx d = true ∨ d = e.dot) := by
         rcases h1 with h1 | h1 | h1
         ·exact ⟨(hasM_ok h1).1, Or.inl ((h.has d).2 (Or.inl h1))⟩
         ·have h2 := (h.has d).2 (Or.inr h1)
          exact ⟨(hasM_ok h2).1, Or.inl h2⟩
         ·have : d = e.dot := by simpa using h1
          exact ⟨by rw [this]; exact hdo, Or.inr this⟩
     rw [hasM_set hdd.1 hsq, Bool.or_eq_true, decide_eq_true_eq]
     exact hdd.2
   ·show x ∈ insE e R.kept ↔ _
    rw [insE_mem, h.kept x, List.mem_append]
    constructor
    ·rintro (rfl | h1 | ⟨h1, h2⟩)
     ·exact Or.inr ⟨Or.inr (by simp), hv⟩
     ·exact Or.inl h1
     ·exact Or.inr ⟨Or.inl h1, h2⟩
    ·rintro (h1 | ⟨h1 | h1, h2⟩)
     ·exact Or.inr (Or.inl h1)
     ·exact Or.inr (Or.inr ⟨h1, h2⟩)
     ·exact Or.inl (by simpa using h1)
   ·show (insE e R.kept).length ≤ _
    rw [insE_length, List.length_append]
    have := h.len
    simp
    omega
theorem join_fold {v w : RM} (hw : Pure w) (hl : v.kept.length + w.kept.length < 2048) : ∀ (r p : List Ev) (R : RM), p ++ r = w.kept → JAt v p R → JAt v w.kept (r.foldl rmAp R)
 | [], p, R, hp, h => by
   rw [List.append_nil] at hp
   rw [← hp]
   exact h
 | e :: r, p, R, hp, h => join_fold hw hl r (p ++ [e]) (rmAp R e) (by rw [List.append_assoc]; exact hp) (h.step hw hl hp)
/-- v, and all that w keeps, merged into it -/
def joinR (v w : RM) : RM := w.kept.foldl rmAp v
theorem joinR_at {v w : RM} (hv : Pure v) (hw : Pure w) (hl : v.kept.length + w.kept.length < 2048) : JAt v w.kept (joinR v w) :=
 join_fold hw hl w.kept [] v rfl ⟨hv, fun d => by simp, fun e => by simp, by simp⟩
theorem joinR_comm {v w : RM} (hv : Pure v) (hw : Pure w) (hl : v.kept.length + w.kept.length < 2048) (hc : ∀ e ∈ v.kept, ∀ f ∈ w.kept, e.dot = f.dot → e = f) : joinR v w = joinR w v := by
 have h1 := joinR_at hv hw hl
 have h2 := joinR_at hw hv (by omega)
 have key : ∀ {v w : RM}, Pure v → (∀ e ∈ v.kept, ∀ f ∈ w.kept, e.dot = f.dot → e = f) → ∀ e, (e ∈ v.kept ∨ (e ∈ w.kept ∧ hasM v.ctx e.dot = false)) ↔ (e ∈ v.kept ∨ e ∈ w.kept) := fun {v w} hv hc e => by
  constructor
  ·rintro (h | ⟨h, _⟩)
   ·exact Or.inl h
   ·exact Or.inr h
  ·rintro (h | h)
   ·exact Or.inl h
   ·cases hh : hasM v.ctx e.dot with
    | false => exact Or.inr ⟨h, rfl⟩
    | true =>
      obtain ⟨x, hx, e9⟩ := hv.full _ hh
      rw [← hc x hx e h e9]
      exact Or.inl hx
 refine h1.pure.ext h2.pure fun e => ?_
 rw [h1.kept e, h2.kept e, key hv hc e, key hw (fun e he f hf h9 => (hc f hf e he h9.symm).symm) e]
 exact Or.comm
/-- of what w keeps just that which v has not -/
theorem fold_new {v : RM} : ∀ (l : List Ev) (R : RM), RInv R → (∀ d, hasM v.ctx d = true → hasM R.ctx d = true) → (l.filter fun x => !hasM v.ctx x.dot).foldl rmAp R = l.foldl rmAp R
 | [], _, _, _ => rfl
 | e :: l, R, hR, hm => by
   cases hh : hasM v.ctx e.dot with
   | true =>
     rw [List.filter_cons_of_neg (by rw [hh]; decide), List.foldl_cons, rmAp_no (rmOk_has (hm _ hh))]
     exact fold_new l R hR hm
   | false =>
     rw [List.filter_cons_of_pos (by rw [hh]; decide), List.foldl_cons, List.foldl_cons]
     refine fold_new l (rmAp R e) (hR.ap e) fun d hd => ?_
     have h1 := hm d hd
     cases ho : rmOk R e with
     | false => rw [rmAp_no ho]; exact h1
     | true =>
       obtain ⟨q1, q2, q3, q4⟩ := rmOk_parts ho
       rw [rmAp_yes hR ho]
       show hasM (setM R.ctx e.dot.a e.dot.seq) d = true
       rw [hasM_set (hasM_ok h1).1 q3, h1]
       rfl
theorem joinR_new {v w : RM} (hv : Pure v) : (w.kept.filter fun x => !hasM v.ctx x.dot).foldl rmAp v = joinR v w := fold_new w.kept v hv.inv fun _ h => h
theorem fold_from : ∀ (l : List Ev) (r : RM), ∀ e ∈ (l.foldl rmAp r).kept, e ∈ r.kept ∨ e ∈ l
 | [], _, e, h => Or.inl h
 | x :: l, r, e, h => by
   rcases fold_from l (rmAp r x) e h with h1 | h1
   ·unfold rmAp at h1
    split at h1
    ·rcases insE_mem.1 h1 with rfl | h1
     ·exact Or.inr List.mem_cons_self
     ·exact Or.inl h1
    ·exact Or.inl h1
   ·exact Or.inr (List.mem_cons_of_mem _ h1)
end Go.Proofs.YtpbobhfnglikmaaGreat
