/- The map and the reference's map, plainly: what is applied to both. Conditions: none. -/
import Derived.Test.YtohcmljigcdmbaaGreatDelta
set_option linter.unusedSimpArgs false
set_option linter.unusedVariables false
set_option linter.unnecessarySimpa false
set_option maxHeartbeats 16000000
set_option maxRecDepth 100000
namespace Go.Proofs.YtohcmljigcdmbaaGreat
open Go.RowKit
/-- by dots, each dot once -/
def SrtE (l : List Ev) : Prop := l.Pairwise fun x y => dotLt x.dot y.dot = true
theorem srtE_ext {l m : List Ev} (h : SrtE l) (k : SrtE m) (e : ∀ x, x ∈ l ↔ x ∈ m) : l = m := srt_ext (lt := fun x y : Ev => dotLt x.dot y.dot) (fun x => dotLt_irrefl x.dot) (fun _ _ _ => dotLt_trans) h k e
theorem insE_mem {e : Ev} : ∀ {l : List Ev} {x : Ev}, x ∈ insE e l ↔ x = e ∨ x ∈ l
 | [], x => by simp [insE]
 | y :: l, x => by
   unfold insE
   split
   ·rw [List.mem_cons, insE_mem, List.mem_cons]
    constructor
    ·rintro (h | h | h)
     ·exact Or.inr (Or.inl h)
     ·exact Or.inl h
     ·exact Or.inr (Or.inr h)
    ·rintro (h | h | h)
     ·exact Or.inr (Or.inl h)
     ·exact Or.inl h
     ·exact Or.inr (Or.inr h)
   ·rw [List.mem_cons]
theorem insE_srt {e : Ev} : ∀ {l : List Ev}, SrtE l → (∀ x ∈ l, x.dot ≠ e.dot) → SrtE (insE e l)
 | [], _, _ => by simp [insE, SrtE]
 | y :: l, h, hn => by
   obtain ⟨h1, h2⟩ := List.pairwise_cons.1 h
   unfold insE
   split
   ·rename_i hy
    refine List.pairwise_cons.2 ⟨fun x hx => ?_, insE_srt h2 (fun x hx => hn x (List.mem_cons_of_mem _ hx))⟩
    rcases insE_mem.1 hx with rfl | hx
    ·exact hy
    ·exact h1 x hx
   ·rename_i hy
    have hgt : dotLt e.dot y.dot = true := dotLt_total (fun e2 => hn y List.mem_cons_self e2) (Bool.eq_false_iff.2 hy)
    refine List.pairwise_cons.2 ⟨fun x hx => ?_, h⟩
    rcases List.mem_cons.1 hx with rfl | hx
    ·exact hgt
    ·exact dotLt_trans hgt (h1 x hx)
theorem insE_length (e : Ev) : ∀ l : List Ev, (insE e l).length = l.length + 1
 | [] => rfl
 | y :: l => by
   unfold insE
   split
   ·simp [insE_length e l]
   ·simp
theorem evAt_nd {K : List EvIt} (h : (K.map (·.1.dot)).Nodup) {x : EvIt} (hx : x ∈ K) : evAt K x.1.dot = x.1 := by
 unfold evAt
 cases hf : K.find? fun y => decide (y.1.dot = x.1.dot) with
 | none =>
   have := List.find?_eq_none.1 hf x hx
   simp at this
 | some y =>
   have h1 := List.mem_of_find?_eq_some hf
   have h2 : y.1.dot = x.1.dot := by simpa using List.find?_some hf
   show y.1 = x.1
   have hxy : y = x := by
    rw [List.Nodup, List.pairwise_map] at h
    have hp := List.pairwise_iff_getElem.1 h
    obtain ⟨i, hi, rfl⟩ := List.getElem_of_mem h1
    obtain ⟨j, hj, rfl⟩ := List.getElem_of_mem hx
    rcases Nat.lt_trichotomy i j with hij | hij | hij
    ·exact absurd h2 (hp i j hi hj hij)
    ·subst hij; rfl
    ·exact absurd h2.symm (hp j i hj hi hij)
   rw [hxy]
theorem eventsOf_mem {s : MS} (h : (s.K.map (·.1.dot)).Nodup) {x : Ev} : x ∈ eventsOf s ↔ ∃ y ∈ s.K, y.1 = x := by
 unfold eventsOf
 rw [List.mem_map]
 constructor
 ·rintro ⟨d, hd, rfl⟩
  obtain ⟨y, hy, rfl⟩ := List.mem_map.1 (sortD_mem.1 hd)
  exact ⟨y, hy, (evAt_nd h hy).symm⟩
 ·rintro ⟨y, hy, rfl⟩
  exact ⟨y.1.dot, sortD_mem.2 (List.mem_map.2 ⟨y, hy, rfl⟩), evAt_nd h hy⟩
theorem eventsOf_dots {s : MS} (h : (s.K.map (·.1.dot)).Nodup) : (eventsOf s).map (·.dot) = sortD (s.K.map fun x => x.1.dot) := by
 unfold eventsOf
 rw [List.map_map]
 conv => rhs; rw [← List.map_id (sortD (s.K.map fun x => x.1.dot))]
 refine List.map_congr_left fun d hd => ?_
 obtain ⟨y, hy, rfl⟩ := List.mem_map.1 (sortD_mem.1 hd)
 show (evAt s.K y.1.dot).dot = y.1.dot
 rw [evAt_nd h hy]
theorem eventsOf_srt {s : MS} (h : (s.K.map (·.1.dot)).Nodup) : SrtE (eventsOf s) := by
 have h1 := sortD_srt (s.K.map fun x => x.1.dot)
 rw [← eventsOf_dots h] at h1
 exact List.pairwise_map.1 h1
theorem sortD_len_nd {l : List Dot} (h : l.Nodup) : (sortD l).length = l.length := by
 refine Nat.le_antisymm (sortD_length l) (nodup_len h fun x hx => sortD_mem.2 hx)
theorem eventsOf_len {s : MS} (h : (s.K.map (·.1.dot)).Nodup) : (eventsOf s).length = s.K.length := by
 unfold eventsOf
 rw [List.length_map, sortD_len_nd h, List.length_map]
/-- a map's state and the reference's -/
structure Rel (s : MS) (r : RM) : Prop where
 nd : (s.K.map (·.1.dot)).Nodup
 ctx : r.ctx = s.ctx
 kept : r.kept = eventsOf s
 dead : r.dead = sortD s.dead
def RM.empty : RM := ⟨[], [], []⟩
theorem Rel.empty : Rel MS.empty RM.empty := ⟨List.nodup_nil, rfl, rfl, rfl⟩
theorem Rel.ok {s : MS} {r : RM} (h : Rel s r) (e : Ev) : rmOk r e = apOk s e := by
 unfold rmOk apOk
 rw [h.ctx, h.kept, eventsOf_len h.nd]
theorem Rel.applied {s s' : MS} {r : RM} {e : Ev} (h : Rel s r) (hi : MInv s) (hok : apOk s e = true) (ha : Applied s e s') : Rel s' (rmAp r e) := by
 obtain ⟨a, c, hk⟩ := ha.kept
 obtain ⟨q1, q2, q3, q4⟩ := apOk_parts hok
 have hnew : ∀ x ∈ s.K, x.1.dot ≠ e.dot := fun x hx e2 => by
  have := (hi.kept x hx).2
  rw [e2, q2] at this
  cases this
 have hnd : (s'.K.map (·.1.dot)).Nodup := by
  refine (hk.map fun x : EvIt => x.1.dot).nodup_iff.2 ?_
  rw [List.map_cons, List.nodup_cons]
  refine ⟨fun hm => ?_, h.nd⟩
  obtain ⟨x, hx, e2⟩ := List.mem_map.1 hm
  exact hnew x hx e2
 unfold rmAp
 rw [h.ok, hok, if_pos rfl]
 refine ⟨hnd, ?_, ?_, ?_⟩
 ·show rsetM r.ctx e.dot.a e.dot.seq = s'.ctx
  rw [h.ctx, rsetM_srt hi.ctx, ha.ctx]
 ·show insE e r.kept = eventsOf s'
  rw [h.kept]
  refine srtE_ext (insE_srt (eventsOf_srt h.nd) fun x hx => ?_) (eventsOf_srt hnd) fun x => ?_
  ·obtain ⟨y, hy, rfl⟩ := (eventsOf_mem h.nd).1 hx
   exact hnew y hy
  ·rw [insE_mem, eventsOf_mem h.nd, eventsOf_mem hnd]
   constructor
   ·rintro (rfl | ⟨y, hy, rfl⟩)
    ·exact ⟨(x, a, c), hk.mem_iff.2 List.mem_cons_self, rfl⟩
    ·exact ⟨y, hk.mem_iff.2 (List.mem_cons_of_mem _ hy), rfl⟩
   ·rintro ⟨y, hy, rfl⟩
    rcases List.mem_cons.1 (hk.mem_iff.1 hy) with rfl | hy
    ·exact Or.inl rfl
    ·exact Or.inr ⟨y, hy, rfl⟩
 ·show sortD (r.dead ++ e.over) = sortD s'.dead
  rw [h.dead, ha.dead]
  refine sortD_congr fun x => ?_
  rw [List.mem_append, sortD_mem, foldAdd_mem]
  exact Or.comm
theorem Rel.any {s s' : MS} {r : RM} {e : Ev} (h : Rel s r) (hi : MInv s) (ha : if apOk s e = true then Applied s e s' else s' = s) : Rel s' (rmAp r e) := by
 split at ha
 ·rename_i hok
  exact h.applied hi hok ha
 ·rename_i hok
  subst ha
  unfold rmAp
  rw [h.ok, if_neg hok]
  exact h
theorem Merged.rel {s : MS} {r : RM} (h : Rel s r) (hi : MInv s) {l : List Ev} {s' : MS} {n : Nat} {f : Int} (hM : Merged s l s' n f) : Rel s' (l.foldl rmAp r) := by
 induction hM with
 | nil => exact h
 | snoc h2 hap ih =>
   rw [List.foldl_append]
   exact ih.any (h2.facts hi).1 hap
/-! ### sizes behind a number of events -/
structure RMGood (r : RM) (n : Nat) : Prop where
 srt : SrtM r.ctx
 ok : ∀ d ∈ r.ctx, dotOk d = true
 ctx : r.ctx.length ≤ n
 kept : r.kept.length ≤ n
 dead : r.dead.length ≤ 64 * n
theorem RMGood.empty : RMGood RM.empty 0 := ⟨List.Pairwise.nil, fun d hd => (nomatch hd), Nat.le_refl _, Nat.le_refl _, Nat.le_refl _⟩
theorem RMGood.ap {r : RM} {n : Nat} (h : RMGood r n) (e : Ev) : RMGood (rmAp r e) (n + 1) := by
 unfold rmAp
 split
 ·rename_i hok
  have hev : evOk e = true := by
   unfold rmOk at hok
   rw [Bool.and_eq_true] at hok
   exact hok.1
  obtain ⟨q1, q2, q3, _⟩ := evOk_parts hev
  refine ⟨?_, ?_, ?_, ?_, ?_⟩
  ·show SrtM (rsetM _ _ _)
   rw [rsetM_srt h.srt]
   exact setM_srt h.srt
  ·intro d hd
   rw [show (⟨rsetM r.ctx e.dot.a e.dot.seq, insE e r.kept, sortD (r.dead ++ e.over)⟩ : RM).ctx = setM r.ctx e.dot.a e.dot.seq from rsetM_srt h.srt _ _] at hd
   rcases setM_mem hd with rfl | hd
   ·exact q1
   ·exact h.ok d hd
  ·show (rsetM _ _ _).length ≤ _
   rw [rsetM_srt h.srt]
   have := setM_length r.ctx e.dot.a e.dot.seq
   have := h.ctx
   omega
  ·show (insE _ _).length ≤ _
   rw [insE_length]
   have := h.kept
   omega
  ·show (sortD _).length ≤ _
   have h1 := sortD_length (r.dead ++ e.over)
   rw [List.length_append] at h1
   have := h.dead
   omega
 ·exact ⟨h.srt, h.ok, Nat.le_succ_of_le h.ctx, Nat.le_succ_of_le h.kept, by have := h.dead; omega⟩
theorem RMGood.fold {r : RM} {n : Nat} (h : RMGood r n) : ∀ (l : List Ev), RMGood (l.foldl rmAp r) (n + l.length) := by
 intro l
 induction l generalizing r n with
 | nil => exact h
 | cons e l ih =>
   have := ih (h.ap e)
   rw [List.foldl_cons, List.length_cons]
   rwa [show n + (l.length + 1) = n + 1 + l.length by omega]
theorem RMGood.size {x : RMIt} {n : Nat} (h : RMGood x.rm n) (hn : n ≤ 4096) : RMSize x := by
 have h1 := h.ctx
 have h2 := h.kept
 have h3 := h.dead
 have h4 : (evsOf x.K).length ≤ n := h2
 rw [evsOf_length] at h4
 exact ⟨Nat.le_trans h1 (by omega), by omega, Nat.le_trans h3 (by omega), h.ok⟩
/-- what was applied is kept -/
def FullM (s : MS) : Prop := ∀ d, hasM s.ctx d = true → ∃ x ∈ s.K, x.1.dot = d
theorem FullM.empty : FullM MS.empty := fun d h => by
 have h1 : hasM MS.empty.ctx d = (dotOk d && decide (d.seq ≤ 0)) := rfl
 rw [h1, Bool.and_eq_true, decide_eq_true_eq] at h
 have h2 := h.1
 simp only [dotOk, Bool.and_eq_true, decide_eq_true_eq] at h2
 omega
theorem hasM_ok {l : List Dot} {d : Dot} (h : hasM l d = true) : dotOk d = true ∧ d.seq ≤ getM l d.a := by
 unfold hasM at h
 rw [Bool.and_eq_true, decide_eq_true_eq] at h
 exact h
theorem FullM.applied {s s' : MS} {e : Ev} (h : FullM s) (hok : apOk s e = true) (ha : Applied s e s') : FullM s' := fun d hd => by
 obtain ⟨a, c, hk⟩ := ha.kept
 obtain ⟨q1, q2, q3, q4⟩ := apOk_parts hok
 have hdk := (hasM_ok hd).1
 rw [ha.ctx, hasM_set hdk q3, Bool.or_eq_true, decide_eq_true_eq] at hd
 rcases hd with hd | rfl
 ·obtain ⟨x, hx, h1⟩ := h d hd
  exact ⟨x, hk.mem_iff.2 (List.mem_cons_of_mem _ hx), h1⟩
 ·exact ⟨(e, a, c), hk.mem_iff.2 List.mem_cons_self, rfl⟩
/-- the events to come can be applied, one behind the other -/
structure Next (t : MS) (r : List Ev) : Prop where
 new : ∀ x ∈ r, hasM t.ctx x.dot = false
 pred : ∀ x ∈ r, getM t.ctx x.dot.a + 1 = x.dot.seq ∨ ∃ y ∈ r, y.dot = ⟨x.dot.a, x.dot.seq - 1⟩
theorem apErr_ok {s : MS} {e : Ev} (h : apOk s e = true) : apErr s e = 0 := by
 obtain ⟨q1, q2, q3, q4⟩ := apOk_parts h
 unfold apErr
 rw [if_pos q1, q2, if_neg (by simp), if_pos q3, if_pos q4]
theorem dotLt_seq {a : Actor} {m n : Int} (h : m < n) : dotLt ⟨a, m⟩ ⟨a, n⟩ = true := by
 unfold dotLt actorLt
 simp [h]
theorem Merged.all {t : MS} {p : List Ev} {t1 : MS} {n : Nat} {f : Int} (hM : Merged t p t1 n f) : ∀ (r : List Ev), SrtE (p ++ r) → Next t (p ++ r) → t.K.length + (p ++ r).length ≤ 2048 → (∀ x ∈ p ++ r, evOk x = true) →
 n = p.length ∧ f = 0 ∧ Next t1 r ∧ (∀ d, dotOk d = true → hasM t1.ctx d = (hasM t.ctx d || decide (d ∈ p.map (·.dot)))) ∧ t1.K.length = t.K.length + p.length := by
 induction hM with
 | nil => exact fun r _ hN _ _ => ⟨rfl, rfl, hN, fun d _ => by simp, rfl⟩
 | snoc h2 hap ih =>
   rename_i p s1 s2 n f e
   intro r hs hN hl hok
   rw [List.append_assoc] at hs hN hl hok
   obtain ⟨rfl, rfl, hN1, hh, hk⟩ := ih (e :: r) hs hN hl hok
   have hse : SrtE (e :: r) := (List.pairwise_append.1 hs).2.1
   obtain ⟨hse1, hse2⟩ := List.pairwise_cons.1 hse
   have heo : evOk e = true := hok e (by simp)
   have hdo := (evOk_parts heo).1
   have hq : getM s1.ctx e.dot.a + 1 = e.dot.seq := by
    rcases hN1.pred e List.mem_cons_self with h | ⟨y, hy, hyd⟩
    ·exact h
    ·exfalso
     have hlt : dotLt y.dot e.dot = true := by rw [hyd]; exact dotLt_seq (a := e.dot.a) (m := e.dot.seq - 1) (n := e.dot.seq) (by omega)
     rcases List.mem_cons.1 hy with rfl | hy
     ·rw [dotLt_irrefl] at hlt; cases hlt
     ·have := dotLt_trans hlt (hse1 y hy)
      rw [dotLt_irrefl] at this
      cases this
   have hap1 : apOk s1 e = true := by
    unfold apOk
    have hlen : s1.K.length < 2048 := by
        rw [hk]
        simp only [List.length_append, List.length_cons] at hl
        omega
    rw [heo, hN1.new e List.mem_cons_self, decide_eq_true hq, decide_eq_true hlen]
    rfl
   rw [if_pos hap1] at hap
   obtain ⟨a, c, hkp⟩ := hap.kept
   have hh2 : ∀ d, dotOk d = true → hasM s2.ctx d = (hasM s1.ctx d || decide (d = e.dot)) := fun d hd => by rw [hap.ctx, hasM_set hd hq]
   refine ⟨by rw [if_pos hap1]; simp, by rw [if_pos rfl, apErr_ok hap1], ⟨fun x hx => ?_, fun x hx => ?_⟩, fun d hd => ?_, by rw [hkp.length_eq, List.length_cons, hk]; simp; omega⟩
   ·have hxo := (evOk_parts (hok x (by simp [hx]))).1
    rw [hh2 _ hxo, hN1.new x (List.mem_cons_of_mem _ hx), Bool.false_or]
    exact decide_eq_false fun e2 => by have := hse1 x hx; rw [e2, dotLt_irrefl] at this; cases this
   ·rw [hap.ctx, getM_set]
    rcases hN1.pred x (List.mem_cons_of_mem _ hx) with h | ⟨y, hy, hyd⟩
    ·by_cases hxa : x.dot.a = e.dot.a
     ·exfalso
      rw [hxa] at h
      have e3 : x.dot = e.dot := by
           have : x.dot.seq = e.dot.seq := by omega
           cases hx9 : x.dot; cases he9 : e.dot; simp_all
      have := hse1 x hx
      rw [e3, dotLt_irrefl] at this
      cases this
     ·rw [if_neg hxa]; exact Or.inl h
    ·rcases List.mem_cons.1 hy with rfl | hy
     ·rw [hyd, if_pos rfl]
      exact Or.inl (by show x.dot.seq - 1 + 1 = _; omega)
     ·exact Or.inr ⟨y, hy, hyd⟩
   ·rw [hh2 d hd, hh d hd]
    simp [Bool.or_assoc, List.mem_append]
/-! ### 17.Covers -/
/-! ### 22.Of -/
/-- a block of slices is no list's -/
def Sl3 (w : World) (R : Nat) : Prop := ∃ a n c a2 n2 c2 a3 n3 c3 t f, w.heap[R]? = some (.cells #[.slice a n c, .slice a2 n2 c2, .slice a3 n3 c3] t f)
theorem Sl3.int {w : World} {R : Nat} (h : Sl3 w R) {A o : Nat} {k : IntKind} {n : Int} (hc : w.cell? ⟨A, o, none⟩ = some (.int k n)) : A ≠ R := by
 rintro rfl
 obtain ⟨a, n, c, a2, n2, c2, a3, n3, c3, t, f, hh⟩ := h
 simp only [World.cell?, hh] at hc
 match o, hc with
 | 0, hc => simp at hc
 | 1, hc => simp at hc
 | 2, hc => simp at hc
 | o + 3, hc => simp at hc
/-- a map made of events, and the reference's -/
structure MadeIn (w : World) (m : Nat) (b : MB) (s : MS) (y : RMIt) (l : List Ev) (base : Nat) : Prop where
 map : MpIn w m b s
 inv : MInv s
 ref : RMIn w y
 rel : Rel s y.rm
 good : RMGood y.rm l.length
 ctx : s.ctx.length ≤ l.length
 dead : s.dead.length ≤ 64 * l.length
 low : ∀ k, foot b s.A k → base ≤ k
 merged : ∃ n f, Merged MS.empty l s n f
end Go.Proofs.YtohcmljigcdmbaaGreat
