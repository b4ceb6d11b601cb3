/- The law DeltaCovers, plainly. Conditions: none. -/
import Derived.Test.YtcijajjngmmbeaaGreatRelP
set_option linter.unusedSimpArgs false
set_option linter.unusedVariables false
set_option linter.unnecessarySimpa false
namespace Go.Proofs.YtcijajjngmmbeaaGreat
open Go.RowKit

theorem ofFrom_all (mk : List Dot) {most : Int} (hm : most < 0) : ∀ (l out : List Ev), ofFrom mk most out l = out ++ l.filter fun x => !hasM mk x.dot
  | [], out => by simp [ofFrom]
  | x :: l, out => by
    unfold ofFrom
    rw [if_neg (by omega)]
    cases h : hasM mk x.dot with
    | true => rw [if_pos rfl, ofFrom_all mk hm l, List.filter_cons_of_neg (by simp [h])]
    | false => rw [if_neg (by decide), ofFrom_all mk hm l, List.filter_cons_of_pos (by simp [h])]; simp
theorem getM_mem : ∀ {l : List Dot} {d : Dot}, SrtM l → d ∈ l → getM l d.a = d.seq
  | [], d, _, h => (nomatch h)
  | x :: l, d, hs, h => by
    obtain ⟨h1, h2⟩ := List.pairwise_cons.1 hs
    rw [getM_cons]
    rcases List.mem_cons.1 h with rfl | h
    · rw [if_pos rfl]
    · have h3 := h1 d h
      rw [if_neg (fun e => by rw [e, actorLt_irrefl] at h3; cases h3)]
      exact getM_mem h2 h
/-- what was applied is kept -/
def FullM (s : MS) : Prop := ∀ d, hasM s.ctx d = true → ∃ x ∈ s.K, x.1.dot = d
theorem FullM.empty : FullM MS.empty := fun d h => by
  have h1 : hasM MS.empty.ctx d = (dotOk d && decide (d.seq ≤ 0)) := rfl
  rw [h1, Bool.and_eq_true, decide_eq_true_eq] at h
  have h2 := h.1
  simp only [dotOk, Bool.and_eq_true, decide_eq_true_eq] at h2
  omega
theorem hasM_ok {l : List Dot} {d : Dot} (h : hasM l d = true) : dotOk d = true ∧ d.seq ≤ getM l d.a := by
  unfold hasM at h
  rw [Bool.and_eq_true, decide_eq_true_eq] at h
  exact h
theorem FullM.applied {s s' : MS} {e : Ev} (h : FullM s) (hok : apOk s e = true) (ha : Applied s e s') : FullM s' := fun d hd => by
  obtain ⟨a, c, hk⟩ := ha.kept
  obtain ⟨q1, q2, q3, q4⟩ := apOk_parts hok
  have hdk := (hasM_ok hd).1
  rw [ha.ctx, hasM_set hdk q3, Bool.or_eq_true, decide_eq_true_eq] at hd
  rcases hd with hd | rfl
  · obtain ⟨x, hx, h1⟩ := h d hd
    exact ⟨x, hk.mem_iff.2 (List.mem_cons_of_mem _ hx), h1⟩
  · exact ⟨(e, a, c), hk.mem_iff.2 List.mem_cons_self, rfl⟩
theorem Merged.full {s : MS} (hs : FullM s) {l : List Ev} {s' : MS} {n : Nat} {f : Int} (h : Merged s l s' n f) : FullM s' := by
  induction h with
  | nil => exact hs
  | snoc _ hap ih =>
    split at hap
    · rename_i hok
      exact ih.applied hok hap
    · rw [hap]; exact ih
/-- the events to come can be applied, one behind the other -/
structure Next (t : MS) (r : List Ev) : Prop where
  new : ∀ x ∈ r, hasM t.ctx x.dot = false
  pred : ∀ x ∈ r, getM t.ctx x.dot.a + 1 = x.dot.seq ∨ ∃ y ∈ r, y.dot = ⟨x.dot.a, x.dot.seq - 1⟩
theorem apErr_ok {s : MS} {e : Ev} (h : apOk s e = true) : apErr s e = 0 := by
  obtain ⟨q1, q2, q3, q4⟩ := apOk_parts h
  unfold apErr
  rw [if_pos q1, q2, if_neg (by simp), if_pos q3, if_pos q4]
theorem dotLt_seq {a : Actor} {m n : Int} (h : m < n) : dotLt ⟨a, m⟩ ⟨a, n⟩ = true := by
  unfold dotLt actorLt
  simp [h]
theorem Merged.all {t : MS} {p : List Ev} {t1 : MS} {n : Nat} {f : Int} (hM : Merged t p t1 n f) : ∀ (r : List Ev), SrtE (p ++ r) → Next t (p ++ r) → t.K.length + (p ++ r).length ≤ 2048 → (∀ x ∈ p ++ r, evOk x = true) →
    n = p.length ∧ f = 0 ∧ Next t1 r ∧ (∀ d, dotOk d = true → hasM t1.ctx d = (hasM t.ctx d || decide (d ∈ p.map (·.dot)))) ∧ t1.K.length = t.K.length + p.length := by
  induction hM with
  | nil => exact fun r _ hN _ _ => ⟨rfl, rfl, hN, fun d _ => by simp, rfl⟩
  | snoc h2 hap ih =>
    rename_i p s1 s2 n f e
    intro r hs hN hl hok
    rw [List.append_assoc] at hs hN hl hok
    obtain ⟨rfl, rfl, hN1, hh, hk⟩ := ih (e :: r) hs hN hl hok
    have hse : SrtE (e :: r) := (List.pairwise_append.1 hs).2.1
    obtain ⟨hse1, hse2⟩ := List.pairwise_cons.1 hse
    have heo : evOk e = true := hok e (by simp)
    have hdo := (evOk_parts heo).1
    have hq : getM s1.ctx e.dot.a + 1 = e.dot.seq := by
      rcases hN1.pred e List.mem_cons_self with h | ⟨y, hy, hyd⟩
      · exact h
      · exfalso
        have hlt : dotLt y.dot e.dot = true := by rw [hyd]; exact dotLt_seq (a := e.dot.a) (m := e.dot.seq - 1) (n := e.dot.seq) (by omega)
        rcases List.mem_cons.1 hy with rfl | hy
        · rw [dotLt_irrefl] at hlt; cases hlt
        · have := dotLt_trans hlt (hse1 y hy)
          rw [dotLt_irrefl] at this
          cases this
    have hap1 : apOk s1 e = true := by
      unfold apOk
      have hlen : s1.K.length < 2048 := by
        rw [hk]
        simp only [List.length_append, List.length_cons] at hl
        omega
      rw [heo, hN1.new e List.mem_cons_self, decide_eq_true hq, decide_eq_true hlen]
      rfl
    rw [if_pos hap1] at hap
    obtain ⟨a, c, hkp⟩ := hap.kept
    have hh2 : ∀ d, dotOk d = true → hasM s2.ctx d = (hasM s1.ctx d || decide (d = e.dot)) := fun d hd => by rw [hap.ctx, hasM_set hd hq]
    refine ⟨by rw [if_pos hap1]; simp, by rw [if_pos rfl, apErr_ok hap1], ⟨fun x hx => ?_, fun x hx => ?_⟩, fun d hd => ?_, by rw [hkp.length_eq, List.length_cons, hk]; simp; omega⟩
    · have hxo := (evOk_parts (hok x (by simp [hx]))).1
      rw [hh2 _ hxo, hN1.new x (List.mem_cons_of_mem _ hx), Bool.false_or]
      exact decide_eq_false fun e2 => by have := hse1 x hx; rw [e2, dotLt_irrefl] at this; cases this
    · rw [hap.ctx, getM_set]
      rcases hN1.pred x (List.mem_cons_of_mem _ hx) with h | ⟨y, hy, hyd⟩
      · by_cases hxa : x.dot.a = e.dot.a
        · exfalso
          rw [hxa] at h
          have e3 : x.dot = e.dot := by
            have : x.dot.seq = e.dot.seq := by omega
            cases hx9 : x.dot; cases he9 : e.dot; simp_all
          have := hse1 x hx
          rw [e3, dotLt_irrefl] at this
          cases this
        · rw [if_neg hxa]; exact Or.inl h
      · rcases List.mem_cons.1 hy with rfl | hy
        · rw [hyd, if_pos rfl]
          exact Or.inl (by show x.dot.seq - 1 + 1 = _; omega)
        · exact Or.inr ⟨y, hy, hyd⟩
    · rw [hh2 d hd, hh d hd]
      simp [Bool.or_assoc, List.mem_append]
/-- the law's heart: what s has beyond t, merged into t -/
theorem covers_all {s t t' : MS} {n : Nat} {f : Int} (hi : MInv s) (ht : MInv t) (hnd : (s.K.map (·.1.dot)).Nodup) (hf : FullM s) (hl : t.K.length + s.K.length ≤ 2048)
    (hM : Merged t ((eventsOf s).filter fun x => !hasM t.ctx x.dot) t' n f) : n = ((eventsOf s).filter fun x => !hasM t.ctx x.dot).length ∧ f = 0 ∧ coversM t'.ctx s.ctx = true := by
  have hmem : ∀ x, x ∈ ((eventsOf s).filter fun x => !hasM t.ctx x.dot) ↔ (∃ y ∈ s.K, y.1 = x) ∧ hasM t.ctx x.dot = false := fun x => by
    rw [List.mem_filter, eventsOf_mem hnd]
    simp
  have hok : ∀ x ∈ ((eventsOf s).filter fun x => !hasM t.ctx x.dot), evOk x = true := fun x hx => by
    obtain ⟨⟨y, hy, rfl⟩, _⟩ := (hmem x).1 hx
    exact (hi.kept y hy).1
  have hN : Next t ((eventsOf s).filter fun x => !hasM t.ctx x.dot) := by
    refine ⟨fun x hx => ((hmem x).1 hx).2, fun x hx => ?_⟩
    obtain ⟨⟨y, hy, rfl⟩, hno⟩ := (hmem x).1 hx
    have hxo := (evOk_parts (hok _ hx)).1
    have hlt : getM t.ctx y.1.dot.a < y.1.dot.seq := by
      unfold hasM at hno
      rw [hxo, Bool.true_and, decide_eq_false_iff_not] at hno
      omega
    by_cases he : getM t.ctx y.1.dot.a + 1 = y.1.dot.seq
    · exact Or.inl he
    · refine Or.inr ?_
      have hsy := (hasM_ok (hi.kept y hy).2).2
      by_cases h1 : 1 < y.1.dot.seq
      · have hdo : dotOk ⟨y.1.dot.a, y.1.dot.seq - 1⟩ = true := by
          simp only [dotOk, Bool.and_eq_true, decide_eq_true_eq] at hxo ⊢
          exact ⟨hxo.1, by omega, by omega⟩
        have hhs : hasM s.ctx ⟨y.1.dot.a, y.1.dot.seq - 1⟩ = true := by
          unfold hasM
          rw [hdo, Bool.true_and, decide_eq_true_eq]
          show y.1.dot.seq - 1 ≤ getM s.ctx y.1.dot.a
          omega
        obtain ⟨z, hz, hzd⟩ := hf _ hhs
        refine ⟨z.1, (hmem z.1).2 ⟨⟨z, hz, rfl⟩, ?_⟩, hzd⟩
        unfold hasM
        rw [hzd, hdo, Bool.true_and, decide_eq_false_iff_not]
        show ¬ (y.1.dot.seq - 1 ≤ getM t.ctx y.1.dot.a)
        omega
      · exfalso
        have h0 := (getM_range ht.ctxOk y.1.dot.a).1
        simp only [dotOk, Bool.and_eq_true, decide_eq_true_eq] at hxo
        omega
  have hlen : ((eventsOf s).filter fun x => !hasM t.ctx x.dot).length ≤ s.K.length := by
    refine Nat.le_trans (List.length_filter_le _ _) ?_
    rw [eventsOf_len hnd]
    exact Nat.le_refl _
  have hsr : SrtE ((eventsOf s).filter fun x => !hasM t.ctx x.dot) := (eventsOf_srt hnd).sublist (List.filter_sublist)
  obtain ⟨h1, h2, _, h4, _⟩ := hM.all [] (by rw [List.append_nil]; exact hsr) (by rw [List.append_nil]; exact hN) (by rw [List.append_nil]; omega) (by rw [List.append_nil]; exact hok)
  refine ⟨h1, h2, ?_⟩
  unfold coversM
  rw [List.all_eq_true]
  intro d hd
  have hdo := hi.ctxOk d hd
  have hhs : hasM s.ctx d = true := by
    unfold hasM
    rw [hdo, getM_mem hi.ctx hd, Bool.true_and, decide_eq_true_eq]
    exact Int.le_refl _
  have : hasM t'.ctx d = true := by
    rw [h4 d hdo]
    cases ht : hasM t.ctx d with
    | true => rfl
    | false =>
      obtain ⟨z, hz, hzd⟩ := hf d hhs
      rw [Bool.false_or, decide_eq_true_eq, List.mem_map]
      exact ⟨z.1, (hmem z.1).2 ⟨⟨z, hz, rfl⟩, by rw [hzd]; exact ht⟩, hzd⟩
  exact decide_eq_true (hasM_ok this).2
end Go.Proofs.YtcijajjngmmbeaaGreat
