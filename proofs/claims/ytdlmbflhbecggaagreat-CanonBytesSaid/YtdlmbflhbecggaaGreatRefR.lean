/- The map and the reference's map, plainly: what is applied to both. Conditions: none. -/
import Derived.Test.YtdlmbflhbecggaaGreatRefE
import Derived.Test.YtdlmbflhbecggaaGreatDelta
set_option linter.unusedSimpArgs false
set_option linter.unusedVariables false
set_option linter.unnecessarySimpa false
set_option maxHeartbeats 16000000
set_option maxRecDepth 100000
namespace Go.Proofs.YtdlmbflhbecggaaGreat
open Go.RowKit
/-- by dots, each dot once -/
def ww (l : List Ev) : Prop := l.Pairwise fun x y => cZ x.dot y.dot = true
theorem tC {l m : List Ev} (h : ww l) (k : ww m) (e : ∀ x, x ∈ l ↔ x ∈ m) : l = m := xP (lt := fun x y : Ev => cZ x.dot y.dot) (fun x => eG x.dot) (fun _ _ _ => iO) h k e
theorem zy {e : Ev} : ∀ {l : List Ev} {x : Ev}, x ∈ qo e l ↔ x = e ∨ x ∈ l
 | [], x => by simp [qo]
 | y :: l, x => by
   unfold qo
   split
   ·rw [List.mem_cons, zy, List.mem_cons]
    constructor
    ·exact z55
    ·exact z55
   ·rw [List.mem_cons]
theorem ES {e : Ev} : ∀ {l : List Ev}, ww l → (∀ x ∈ l, x.dot ≠ e.dot) → ww (qo e l)
 | [], _, _ => by simp [qo, ww]
 | y :: l, h, hn => by
   obtain ⟨h1, h2⟩ := List.pairwise_cons.1 h
   unfold qo
   split
   ·rename_i hy
    refine List.pairwise_cons.2 ⟨fun x hx => ?_, ES h2 (fun x hx => hn x (List.mem_cons_of_mem _ hx))⟩
    rcases zy.1 hx with rfl | hx
    ·exact hy
    ·exact h1 x hx
   ·rename_i hy
    have hgt : cZ e.dot y.dot = true := nM (fun e2 => hn y List.mem_cons_self e2) (Bool.eq_false_iff.2 hy)
    refine List.pairwise_cons.2 ⟨fun x hx => ?_, h⟩
    rcases List.mem_cons.1 hx with rfl | hx
    ·exact hgt
    ·exact iO hgt (h1 x hx)
theorem wQ (e : Ev) : ∀ l : List Ev, (qo e l).length = l.length + 1
 | [] => rfl
 | y :: l => by
   unfold qo
   split
   ·simp [wQ e l]
   ·simp
theorem l7 {K : List bg} (h : (K.map (·.1.dot)).Nodup) {x : bg} (hx : x ∈ K) : evAt K x.1.dot = x.1 := by
 unfold evAt
 cases hf : K.find? fun y => decide (y.1.dot = x.1.dot) with
 | none =>
   have := List.find?_eq_none.1 hf x hx
   simp at this
 | some y =>
   have h1 := List.mem_of_find?_eq_some hf
   have h2 : y.1.dot = x.1.dot := by simpa using List.find?_some hf
   show y.1 = x.1
   have hxy : y = x := by
    rw [List.Nodup, List.pairwise_map] at h
    have hp := List.pairwise_iff_getElem.1 h
    obtain ⟨i, hi, rfl⟩ := List.getElem_of_mem h1
    obtain ⟨j, hj, rfl⟩ := List.getElem_of_mem hx
    rcases Nat.lt_trichotomy i j with hij | hij | hij
    ·exact absurd h2 (hp i j hi hj hij)
    ·subst hij; rfl
    ·exact absurd h2.symm (hp j i hj hi hij)
   rw [hxy]
theorem dU {s : MS} (h : (s.K.map (·.1.dot)).Nodup) {x : Ev} : x ∈ bP s ↔ ∃ y ∈ s.K, y.1 = x := by
 unfold bP
 rw [List.mem_map]
 constructor
 ·rintro ⟨d, hd, rfl⟩
  obtain ⟨y, hy, rfl⟩ := List.mem_map.1 (df.1 hd)
  exact ⟨y, hy, (l7 h hy).symm⟩
 ·rintro ⟨y, hy, rfl⟩
  exact ⟨y.1.dot, df.2 (List.mem_map.2 ⟨y, hy, rfl⟩), l7 h hy⟩
theorem AV {s : MS} (h : (s.K.map (·.1.dot)).Nodup) : (bP s).map (·.dot) = sortD (s.K.map fun x => x.1.dot) := by
 unfold bP
 rw [List.map_map]
 conv => rhs; rw [← List.map_id (sortD (s.K.map fun x => x.1.dot))]
 refine List.map_congr_left fun d hd => ?_
 obtain ⟨y, hy, rfl⟩ := List.mem_map.1 (df.1 hd)
 show (evAt s.K y.1.dot).dot = y.1.dot
 rw [l7 h hy]
theorem kP {s : MS} (h : (s.K.map (·.1.dot)).Nodup) : ww (bP s) := by
 have h1 := iI (s.K.map fun x => x.1.dot)
 rw [← AV h] at h1
 exact List.pairwise_map.1 h1
theorem CE {l : List Dot} (h : l.Nodup) : (sortD l).length = l.length := by
 refine Nat.le_antisymm (fG l) (oh h fun x hx => df.2 hx)
theorem fJ {s : MS} (h : (s.K.map (·.1.dot)).Nodup) : (bP s).length = s.K.length := by
 unfold bP
 rw [List.length_map, CE h, List.length_map]
/-- a map's state and the reference's -/
structure Rel (s : MS) (r : RM) : Prop where
 nd : (s.K.map (·.1.dot)).Nodup
 ctx : r.ctx = s.ctx
 kept : r.kept = bP s
 dead : r.dead = sortD s.dead
def RM.empty : RM := ⟨[], [], []⟩
theorem Rel.empty : Rel MS.empty RM.empty := ⟨List.nodup_nil, rfl, rfl, rfl⟩
theorem Rel.ok {s : MS} {r : RM} (h : Rel s r) (e : Ev) : Ee r e = jJ s e := by
 unfold Ee jJ
 rw [h.ctx, h.kept, fJ h.nd]
theorem Rel.applied {s s' : MS} {r : RM} {e : Ev} (h : Rel s r) (hi : MInv s) (hok : jJ s e = true) (ha : Applied s e s') : Rel s' (pU r e) := by
 obtain ⟨a, c, hk⟩ := ha.kept
 obtain ⟨q1, q2, q3, q4⟩ := jX hok
 have hnew : ∀ x ∈ s.K, x.1.dot ≠ e.dot := fun x hx e2 => by
  have := (hi.kept x hx).2
  rw [e2, q2] at this
  cases this
 have hnd : (s'.K.map (·.1.dot)).Nodup := by
  refine (hk.map fun x : bg => x.1.dot).nodup_iff.2 ?_
  rw [List.map_cons, List.nodup_cons]
  refine ⟨fun hm => ?_, h.nd⟩
  obtain ⟨x, hx, e2⟩ := List.mem_map.1 hm
  exact hnew x hx e2
 unfold pU
 rw [h.ok, hok, if_pos rfl]
 refine ⟨hnd, ?_, ?_, ?_⟩
 ·show jL r.ctx e.dot.a e.dot.seq = s'.ctx
  rw [h.ctx, qO hi.ctx, ha.ctx]
 ·show qo e r.kept = bP s'
  rw [h.kept]
  refine tC (ES (kP h.nd) fun x hx => ?_) (kP hnd) fun x => ?_
  ·obtain ⟨y, hy, rfl⟩ := (dU h.nd).1 hx
   exact hnew y hy
  ·rw [zy, dU h.nd, dU hnd]
   constructor
   ·rintro (rfl | ⟨y, hy, rfl⟩)
    ·exact ⟨(x, a, c), hk.mem_iff.2 List.mem_cons_self, rfl⟩
    ·exact ⟨y, hk.mem_iff.2 (List.mem_cons_of_mem _ hy), rfl⟩
   ·rintro ⟨y, hy, rfl⟩
    rcases List.mem_cons.1 (hk.mem_iff.1 hy) with rfl | hy
    ·exact Or.inl rfl
    ·exact Or.inr ⟨y, hy, rfl⟩
 ·show sortD (r.dead ++ e.over) = sortD s'.dead
  rw [h.dead, ha.dead]
  refine ku fun x => ?_
  rw [List.mem_append, df, lw]
  exact Or.comm
theorem Rel.any {s s' : MS} {r : RM} {e : Ev} (h : Rel s r) (hi : MInv s) (ha : if jJ s e = true then Applied s e s' else s' = s) : Rel s' (pU r e) := by
 split at ha
 ·rename_i hok
  exact h.applied hi hok ha
 ·rename_i hok
  subst ha
  unfold pU
  rw [h.ok, if_neg hok]
  exact h
theorem Merged.rel {s : MS} {r : RM} (h : Rel s r) (hi : MInv s) {l : List Ev} {s' : MS} {n : Nat} {f : Int} (hM : Merged s l s' n f) : Rel s' (l.foldl pU r) := by
 induction hM with
 | nil => exact h
 | snoc h2 hap ih =>
   rw [List.foldl_append]
   exact ih.any (h2.facts hi).1 hap
/-! ### sizes behind a number of events -/
structure RMGood (r : RM) (n : Nat) : Prop where
 srt : nY r.ctx
 ok : ∀ d ∈ r.ctx, bu d = true
 ctx : r.ctx.length ≤ n
 kept : r.kept.length ≤ n
 dead : r.dead.length ≤ 64 * n
theorem RMGood.empty : RMGood RM.empty 0 := ⟨List.Pairwise.nil, fun d hd => (nomatch hd), Nat.le_refl _, Nat.le_refl _, Nat.le_refl _⟩
theorem RMGood.ap {r : RM} {n : Nat} (h : RMGood r n) (e : Ev) : RMGood (pU r e) (n + 1) := by
 unfold pU
 split
 ·rename_i hok
  have hev : cu e = true := by
   unfold Ee at hok
   rw [Bool.and_eq_true] at hok
   exact hok.1
  obtain ⟨q1, q2, q3, _⟩ := dN hev
  refine ⟨?_, ?_, ?_, ?_, ?_⟩
  ·show nY (jL _ _ _)
   rw [qO h.srt]
   exact yw h.srt
  ·intro d hd
   rw [show (⟨jL r.ctx e.dot.a e.dot.seq, qo e r.kept, sortD (r.dead ++ e.over)⟩ : RM).ctx = setM r.ctx e.dot.a e.dot.seq from qO h.srt _ _] at hd
   rcases yx hd with rfl | hd
   ·exact q1
   ·exact h.ok d hd
  ·show (jL _ _ _).length ≤ _
   rw [qO h.srt]
   have := wF r.ctx e.dot.a e.dot.seq
   have := h.ctx
   omega
  ·show (qo _ _).length ≤ _
   rw [wQ]
   have := h.kept
   omega
  ·show (sortD _).length ≤ _
   have h1 := fG (r.dead ++ e.over)
   rw [List.length_append] at h1
   have := h.dead
   omega
 ·exact ⟨h.srt, h.ok, Nat.le_succ_of_le h.ctx, Nat.le_succ_of_le h.kept, by have := h.dead; omega⟩
theorem RMGood.fold {r : RM} {n : Nat} (h : RMGood r n) : ∀ (l : List Ev), RMGood (l.foldl pU r) (n + l.length) := by
 intro l
 induction l generalizing r n with
 | nil => exact h
 | cons e l ih =>
   have := ih (h.ap e)
   rw [List.foldl_cons, List.length_cons]
   rwa [show n + (l.length + 1) = n + 1 + l.length by omega]
theorem RMGood.size {x : RMIt} {n : Nat} (h : RMGood x.rm n) (hn : n ≤ 4096) : RMSize x := by
 have h1 := h.ctx
 have h2 := h.kept
 have h3 := h.dead
 have h4 : (aQ x.K).length ≤ n := h2
 rw [aJ] at h4
 exact ⟨Nat.le_trans h1 (by omega), by omega, Nat.le_trans h3 (by omega), h.ok⟩
/-- what was applied is kept -/
def FullM (s : MS) : Prop := ∀ d, iw s.ctx d = true → ∃ x ∈ s.K, x.1.dot = d
theorem FullM.empty : FullM MS.empty := fun d h => by
 have h1 : iw MS.empty.ctx d = (bu d && decide (d.seq ≤ 0)) := rfl
 rw [h1, Bool.and_eq_true, decide_eq_true_eq] at h
 have h2 := h.1
 simp only [bu, Bool.and_eq_true, decide_eq_true_eq] at h2
 omega
theorem Oi {l : List Dot} {d : Dot} (h : iw l d = true) : bu d = true ∧ d.seq ≤ eY l d.a := by
 unfold iw at h
 rw [Bool.and_eq_true, decide_eq_true_eq] at h
 exact h
theorem FullM.applied {s s' : MS} {e : Ev} (h : FullM s) (hok : jJ s e = true) (ha : Applied s e s') : FullM s' := fun d hd => by
 obtain ⟨a, c, hk⟩ := ha.kept
 obtain ⟨q1, q2, q3, q4⟩ := jX hok
 have hdk := (Oi hd).1
 rw [ha.ctx, um hdk q3, Bool.or_eq_true, decide_eq_true_eq] at hd
 rcases hd with hd | rfl
 ·obtain ⟨x, hx, h1⟩ := h d hd
  exact ⟨x, hk.mem_iff.2 (List.mem_cons_of_mem _ hx), h1⟩
 ·exact ⟨(e, a, c), hk.mem_iff.2 List.mem_cons_self, rfl⟩
theorem Merged.full {s : MS} (hs : FullM s) {l : List Ev} {s' : MS} {n : Nat} {f : Int} (h : Merged s l s' n f) : FullM s' := by
 induction h with
 | nil => exact hs
 | snoc _ hap ih =>
   split at hap
   ·rename_i hok
    exact ih.applied hok hap
   ·rw [hap]; exact ih
/-- the events to come can be applied, one behind the other -/
structure Next (t : MS) (r : List Ev) : Prop where
 new : ∀ x ∈ r, iw t.ctx x.dot = false
 pred : ∀ x ∈ r, eY t.ctx x.dot.a + 1 = x.dot.seq ∨ ∃ y ∈ r, y.dot = ⟨x.dot.a, x.dot.seq - 1⟩
theorem Nr {s : MS} {e : Ev} (h : jJ s e = true) : kR s e = 0 := by
 obtain ⟨q1, q2, q3, q4⟩ := jX h
 unfold kR
 rw [if_pos q1, q2, if_neg (by simp), if_pos q3, if_pos q4]
theorem KC {a : Actor} {m n : Int} (h : m < n) : cZ ⟨a, m⟩ ⟨a, n⟩ = true := by
 unfold cZ bG
 simp [h]
theorem Merged.all {t : MS} {p : List Ev} {t1 : MS} {n : Nat} {f : Int} (hM : Merged t p t1 n f) : ∀ (r : List Ev), ww (p ++ r) → Next t (p ++ r) → t.K.length + (p ++ r).length ≤ 2048 → (∀ x ∈ p ++ r, cu x = true) →
 n = p.length ∧ f = 0 ∧ Next t1 r ∧ (∀ d, bu d = true → iw t1.ctx d = (iw t.ctx d || decide (d ∈ p.map (·.dot)))) ∧ t1.K.length = t.K.length + p.length := by
 induction hM with
 | nil => exact fun r _ hN _ _ => ⟨rfl, rfl, hN, fun d _ => by simp, rfl⟩
 | snoc h2 hap ih =>
   rename_i p s1 s2 n f e
   intro r hs hN hl hok
   rw [List.append_assoc] at hs hN hl hok
   obtain ⟨rfl, rfl, hN1, hh, hk⟩ := ih (e :: r) hs hN hl hok
   have hse : ww (e :: r) := (List.pairwise_append.1 hs).2.1
   obtain ⟨Pz, TK⟩ := List.pairwise_cons.1 hse
   have heo : cu e = true := hok e (by simp)
   have hdo := (dN heo).1
   have hq : eY s1.ctx e.dot.a + 1 = e.dot.seq := by
    rcases hN1.pred e List.mem_cons_self with h | ⟨y, hy, hyd⟩
    ·exact h
    ·exfalso
     have hlt : cZ y.dot e.dot = true := by rw [hyd]; exact KC (a := e.dot.a) (m := e.dot.seq - 1) (n := e.dot.seq) (by omega)
     rcases List.mem_cons.1 hy with rfl | hy
     ·rw [eG] at hlt; cases hlt
     ·have := iO hlt (Pz y hy)
      rw [eG] at this
      cases this
   have PX : jJ s1 e = true := by
    unfold jJ
    have hlen : s1.K.length < 2048 := by
        rw [hk]
        simp only [List.length_append, List.length_cons] at hl
        omega
    rw [heo, hN1.new e List.mem_cons_self, decide_eq_true hq, decide_eq_true hlen]
    rfl
   rw [if_pos PX] at hap
   obtain ⟨a, c, hkp⟩ := hap.kept
   have hh2 : ∀ d, bu d = true → iw s2.ctx d = (iw s1.ctx d || decide (d = e.dot)) := fun d hd => by rw [hap.ctx, um hd hq]
   refine ⟨by rw [if_pos PX]; simp, by rw [if_pos rfl, Nr PX], ⟨fun x hx => ?_, fun x hx => ?_⟩, fun d hd => ?_, by rw [hkp.length_eq, List.length_cons, hk]; simp; omega⟩
   ·have hxo := (dN (hok x (by simp [hx]))).1
    rw [hh2 _ hxo, hN1.new x (List.mem_cons_of_mem _ hx), Bool.false_or]
    exact decide_eq_false fun e2 => by have := Pz x hx; rw [e2, eG] at this; cases this
   ·rw [hap.ctx, zL]
    rcases hN1.pred x (List.mem_cons_of_mem _ hx) with h | ⟨y, hy, hyd⟩
    ·by_cases hxa : x.dot.a = e.dot.a
     ·exfalso
      rw [hxa] at h
      have e3 : x.dot = e.dot := by
           have : x.dot.seq = e.dot.seq := by omega
           cases hx9 : x.dot; cases he9 : e.dot; simp_all
      have := Pz x hx
      rw [e3, eG] at this
      cases this
     ·rw [if_neg hxa]; exact Or.inl h
    ·rcases List.mem_cons.1 hy with rfl | hy
     ·rw [hyd, if_pos rfl]
      exact Or.inl (by show x.dot.seq - 1 + 1 = _; omega)
     ·exact Or.inr ⟨y, hy, hyd⟩
   ·rw [hh2 d hd, hh d hd]
    simp [Bool.or_assoc, List.mem_append]
/-! ### 17.Covers -/
/-! ### 22.Of -/
/-- a block of slices is no list's -/
def Sl3 (w : World) (R : Nat) : Prop := ∃ a n c a2 n2 c2 a3 n3 c3 t f, w.heap[R]? = some (.cells #[.slice a n c, .slice a2 n2 c2, .slice a3 n3 c3] t f)
theorem Sl3.int {w : World} {R : Nat} (h : Sl3 w R) {A o : Nat} {k : IntKind} {n : Int} (hc : w.cell? ⟨A, o, none⟩ = some (.int k n)) : A ≠ R := by
 rintro rfl
 obtain ⟨a, n, c, a2, n2, c2, a3, n3, c3, t, f, hh⟩ := h
 simp only [World.cell?, hh] at hc
 match o, hc with
 | 0, hc => simp at hc
 | 1, hc => simp at hc
 | 2, hc => simp at hc
 | o + 3, hc => simp at hc
theorem DotsIn.not3 {w w' : World} {R : Nat} {a : Option Addr} {l : List Dot} (h : DotsIn w a l) (hR : Sl3 w R) (hk : ∀ k, k ≠ R → w'.heap[k]? = w.heap[k]?) : DotsIn w' a l := by
 refine h.imp id fun ⟨A, off, h1, h2⟩ => ⟨A, off, h1, ?_⟩
 have hkc : ∀ o n, w.cell? ⟨A, o, none⟩ = some (.int .i64 n) → w'.cell? ⟨A, o, none⟩ = some (.int .i64 n) := fun o n hc => (World.cell?_of_block (hk A (hR.int hc))).trans hc
 exact ⟨fun i hi => hkc _ _ (h2.dev i hi), fun i hi => hkc _ _ (h2.inc i hi), fun i hi => hkc _ _ (h2.seq i hi)⟩
theorem EvsIn.not3 {w w' : World} {R : Nat} {a : Option Addr} {ls : List bg} (h : EvsIn w a ls) (hR : Sl3 w R) (hk : ∀ k, k ≠ R → w'.heap[k]? = w.heap[k]?) : EvsIn w' a ls := by
 refine ⟨h.rows.imp id fun ⟨A, off, h1, h2⟩ => ⟨A, off, h1, fun i hi j v hv => ?_⟩, fun x hx => (h.dots x hx).not3 hR hk⟩
 have hA : A ≠ R := hR.int (h2 i hi 0 _ rfl)
 exact (World.cell?_of_block (hk A hA)).trans (h2 i hi j v hv)
theorem RMIn.not3 {w w' : World} {R : Nat} {x : RMIt} (h : RMIn w x) (hR : Sl3 w R) (hk : ∀ k, k ≠ R → w'.heap[k]? = w.heap[k]?) : RMIn w' x := ⟨h.ctx.not3 hR hk, h.kept.not3 hR hk, h.dead.not3 hR hk, h.cc, h.cK, h.cd⟩
abbrev wG (x : RMIt) : Array Value := #[.slice x.ac x.ctx.length x.cc, .slice x.aK x.K.length x.cK, .slice x.ad x.dead.length x.cd]
def RMAt (w : World) (R : Nat) (x : RMIt) : Prop := w.heap[R]? = some (.cells (wG x) 32 (0, 0))
theorem RMAt.sl3 {w : World} {R : Nat} {x : RMIt} (h : RMAt w R x) : Sl3 w R := ⟨_, _, _, _, _, _, _, _, _, _, _, h⟩
theorem RMAt.cells {w : World} {R : Nat} {x : RMIt} (h : RMAt w R x) : w.cell? ⟨R, 0, none⟩ = some (.slice x.ac x.ctx.length x.cc) ∧ w.cell? ⟨R, 1, none⟩ = some (.slice x.aK x.K.length x.cK) ∧ w.cell? ⟨R, 2, none⟩ = some (.slice x.ad x.dead.length x.cd) := by
 simp only [RMAt, wG] at h
 simp [World.cell?, h]
theorem RMAt.kept {w w' : World} {R : Nat} {x : RMIt} (h : RMAt w R x) (hb : Below w.heap.size w w') : RMAt w' R x := (hb.block _ (lt_of_block h)).trans h
def rm0 : RMIt := ⟨none, [], 0, none, [], 0, none, [], 0⟩
theorem Pg (w : World) : RMIn w rm0 := ⟨Or.inl rfl, ⟨Or.inl rfl, fun x hx => (nomatch hx)⟩, Or.inl rfl, Nat.le_refl _, Nat.le_refl _, Nat.le_refl _⟩
def OC (l : List Ev) (w : World) (e : Ending) (w' : World) : Prop := ∃ y, e = .returned (nz y) ∧ RMIn w' y ∧ y.rm = l.foldl pU RM.empty ∧ Below w.heap.size w w'
theorem z16 {p : Prop} (h : p := by
 clear hX hq0 hqn
 obtain ⟨d0, d1, d2⟩ := hqX.cells
 have xA : RMAt X (w.heap.size + 1) y := (hHeld.block _ hlo).trans vA
 have xZ := (hHeld.block w.heap.size (by omega)).trans vZ
 have HX := Lib.hid (And.intro hzX (And.intro xA (And.intro xZ (And.intro MR (And.intro hHeld hlo)))))
 have hx3 := xA
 clear hzX xZ vA vI vd vZ vR vC0 vC1 vC2 hqX xA hlo MR hHeld hb5 hz5
 unfold RMAt at hx3
 go_wp2_with (refine wpList_store_row rfl 32 _ _ rfl (w.heap.size + 1) #[.slice z.ac z.ctx.length z.cc, .slice z.aK z.K.length z.cK, .slice z.ad z.dead.length z.cd] rfl rfl 32 _ hx3 (by kernel_rfl) rfl (by kernel_rfl) ?_)
 obtain ⟨hzX, xA, xZ, MR, hHeld, hlo⟩ := HX.out
 have HF : Hid (RMAt (X.setRow (w.heap.size + 1) #[.slice z.ac z.ctx.length z.cc, .slice z.aK z.K.length z.cK, .slice z.ad z.dead.length z.cd]) (w.heap.size + 1) z ∧ RMIn (X.setRow (w.heap.size + 1) #[.slice z.ac z.ctx.length z.cc, .slice z.aK z.K.length z.cK, .slice z.ad z.dead.length z.cd]) z ∧ z.rm = ((aQ ls).take (k + 1)).foldl pU RM.empty ∧ (X.setRow (w.heap.size + 1) #[.slice z.ac z.ctx.length z.cc, .slice z.aK z.K.length z.cK, .slice z.ad z.dead.length z.cd]).heap[w.heap.size]? = some (.cells #[.slice none 0 0, .slice none 0 0, .slice none 0 0] 32 (0, 0)) ∧ Below w.heap.size w (X.setRow (w.heap.size + 1) #[.slice z.ac z.ctx.length z.cc, .slice z.aK z.K.length z.cK, .slice z.ad z.dead.length z.cd])) := by
  refine ⟨setRow_heap _ _ _ _ _ _ hx3, RMIn.not3 (R := w.heap.size + 1) hzX xA.sl3 (fun k9 hk9 => bz _ _ _ _ (fun e9 => hk9 e9.symm)), ?_, (bz _ _ _ _ (by omega)).trans xZ, below_setRow (MR.trans (hHeld.mono (by omega))) (by omega) _⟩
  rw [HT.out, List.foldl_append, ← HY.out]
  exact hzr
 clear hzX xA xZ MR hHeld hlo hx3 d0 d1 d2
 go_roundw
 case rel => exact ⟨k + 1, z, by go_num, HLT.out, HF.out.1, HF.out.2.1, HF.out.2.2.1, HF.out.2.2.2.1, HF.out.2.2.2.2⟩
 case measure => have := HLT.out; simp [intOf] <;> omega) : p := h
theorem z10 {p : Prop} (h : p := by (intro w hSw; have sC0 := kept hSw vC0; have sC1 := kept hSw vC1; have sC2 := kept hSw vC2; go_simp; try with_reducible rfl)) : p := h
theorem y41 {p q : Prop} (k : q) (h : PLift q → p := by
 intro kk
 refine hK.out _ _ hNext (fun ai => ?_)
 have hHeld := hNext
 clear ai
 try simp only [pS]
 revert hHeld
 exact kk.down) : p := h ⟨k⟩
theorem JA (a : Option Addr) (cap : Nat) (ls : List bg) (w : World) (hl : ls.length ≤ 4095) (hE : EvsIn w a ls) (hsm : iq ls) :
 Calls Tryz.prog 49 #[.slice a ls.length cap] w (OC (aQ ls) w) := by
 go_enter Tryz.func49, Tryz.ntmps49
 go_upto_region 2 with fail
 refine aX (fun W0 hW0 => ?_)
 have hb0 : Below w.heap.size w W0 := by rw [hW0.out]; go_grown
 have hA0 : RMAt W0 (w.heap.size + 1) rm0 := by
  rw [hW0.out]
  exact sQ _ _ _
 have hZ : W0.heap[w.heap.size]? = some (.cells #[.slice none 0 0, .slice none 0 0, .slice none 0 0] 32 (0, 0)) := by
  rw [hW0.out]
  exact (((Below.refl _ _).alloc (Nat.le_refl _) _).block _ (by simp)).trans (bV _ _)
 have hz0 := hb0.size
 have HSM := Lib.hid hsm
 clear hW0 hsm
 go_wp2
 go_loopw [4] (fun i wr => ∃ (k : Nat) (y : RMIt), i = .int .i64 k ∧ k ≤ ls.length ∧ RMAt wr (w.heap.size + 1) y ∧ RMIn wr y ∧ y.rm = ((aQ ls).take k).foldl pU RM.empty ∧ wr.heap[w.heap.size]? = some (.cells #[.slice none 0 0, .slice none 0 0, .slice none 0 0] 32 (0, 0)) ∧ Below w.heap.size w wr) (fun i _ => ls.length - (intOf i).toNat)
 case atStart => exact ⟨0, rm0, rfl, Nat.zero_le _, hA0, Pg _, rfl, hZ, hb0⟩
 case round =>
  obtain ⟨k, y, rfl, hk, hAt, hIn, hY, hZr, hbw⟩ := hrel
  have HY := Lib.hid hY
  obtain ⟨c0, c1, c2⟩ := hAt.cells
  by_cases hlt : k < ls.length
  ·obtain ⟨A, off, rfl, hra, hda⟩ := (hE.kept hbw).at hlt
   have r1 := hra k hlt
   have hse := HSM.out _ (List.getElem_mem hlt)
   have HT : Hid ((aQ ls).take (k + 1) = (aQ ls).take k ++ [ls[k].1]) := by
        exact z45
   have HLT := Lib.hid hlt
   have hkl : k ≤ 4095 := by omega
   generalize ls[k] = x at *
   obtain ⟨e, ax, cx⟩ := x
   simp only [jP] at r1
   simp only at hda hse HT
   have hgood : RMGood y.rm k := by
        have := RMGood.empty.fold ((aQ ls).take k)
        rw [← HY.out, List.length_take, aJ, Nat.zero_add, Nat.min_eq_left hk] at this
        exact this
   have HAp := Lib.hid (fun (X : World) (hIn : RMIn X y) (hd : DotsIn X ax e.over) => show Calls Tryz.prog 105 #[nz y, .agg (ah e ax cx).toArray] X (O1 y.rm e X) from GH y e ax cx X hIn (hgood.size (by omega)) hse hd)
   clear hra hgood hse
   go_upto_region 5 with fail
   refine aX (fun V hV => ?_)
   have hbV : Below wr.heap.size wr V.drew := by rw [hV.out]; go_grown
   have vC0 := kept hbV c0
   have vC1 := kept hbV c1
   have vC2 := kept hbV c2
   have vR := aj r1 hbV
   have vI := hIn.keep hbV
   have vd := hda.kept hbV
   have vA := hAt.kept hbV
   have MR : Below w.heap.size w V.drew := hbw.trans (hbV.mono hbw.size)
   have vZ := (hbV.block _ (lt_of_block hZr)).trans hZr
   have hlo : w.heap.size + 1 < V.drew.heap.size := lt_of_block vA
   clear hV hbV hIn hAt hZr c0 c1 c2 r1 hda hbw
   refine wp_region_noPanic ?_
   refine wp_region_held_drew (S := fun W' => Below V.drew.heap.size V.drew W') (by kernel_rfl) (Below.refl _ _) (fun hHeld => ?_)
   refine tH (v := ?_) 0 16 rfl (Or.inl ⟨by rfl, ?_⟩) ?_
   case refine_2 => exact z10
   try simp only [pS]
   refine tH (v := ?_) 1 17 rfl (Or.inl ⟨by rfl, ?_⟩) ?_
   case refine_2 => exact z10
   try simp only [pS]
   refine tH (v := ?_) 2 18 rfl (Or.inl ⟨by rfl, ?_⟩) ?_
   case refine_2 => exact z10
   try simp only [pS]
   refine tH (v := ?_) 3 19 rfl (Or.inl ⟨by rfl, ?_⟩) ?_
   case refine_2 => exact z10
   try simp only [pS]
   refine tH 4 20 rfl (yieldsIf_load_mid (by rfl) 64 _ rfl A (off + k * 19) rfl (ah e ax cx) _ (fun X h => aj vR h) Tryz.underlying64 rfl (by kernel_rfl)) ?_
   try simp only [pS]
   refine wpAnyH_ready (rs := [5, 10]) (by kernel_rfl) (by simp) ?_
   refine AllReadyH.cons (o := ⟨some 21, _, _, _, _, _⟩) rfl (fun K hK => ?_) (AllReadyH.cons (o := ⟨some 5, _, _, _, _, _⟩) rfl (fun K hK => ?_) AllReadyH.nil)
   ·skip
    go_simp
    go_at_call 105
    (with_reducible refine (HAp.out _ (vI.keep hHeld) (vd.kept hHeld)).mono ?_)
    rintro v w5 ⟨z, rfl, hz5, hzr, hb5⟩
    go_simp
    have hNext := hHeld.trans (hb5.mono hHeld.size)
    refine y41 ?_
    clear hK K hHeld hNext
    intro hHeld
    refine tH (v := ?_) 6 15 rfl (Or.inl ⟨by rfl, ?_⟩) ?_
    case refine_2 => exact z61
    try simp only [pS]
    refine tH (v := ?_) 7 22 rfl (Or.inl ⟨by rfl, ?_⟩) ?_
    case refine_2 => exact z61
    try simp only [pS]
    refine tH (v := ?_) 8 23 rfl (Or.inl ⟨by rfl, ?_⟩) ?_
    case refine_2 => exact z61
    try simp only [pS]
    refine tH (v := ?_) 9 24 rfl (Or.inl ⟨by rfl, ?_⟩) ?_
    case refine_2 => exact z61
    try simp only [pS]
    refine rH 10 5 rfl fun K hK => ?_
    have Qy := hHeld.size
    go_simp
    have hNext := hHeld.alloc hHeld.size (.cells #[.slice none 0 0, .slice none 0 0, .slice none 0 0] 32)
    refine y41 ?_
    clear hK K hHeld hNext
    intro hHeld
    refine wpAnyH_ready (rs := [11]) (by kernel_rfl) (by simp) ?_
    refine AllReadyH.cons (o := ⟨none, _, _, _, _, _⟩) rfl (fun K hK => ?_) AllReadyH.nil
    have hq0 : (w5.alloc (.cells #[.slice none 0 0, .slice none 0 0, .slice none 0 0] 32)).heap[w5.heap.size]? = some (.cells #[.slice none 0 0, .slice none 0 0, .slice none 0 0] 32 (0, 0)) := bV _ _
    refine iH (by rfl) 32 _ _ rfl (w5.heap.size) #[.slice z.ac z.ctx.length z.cc, .slice z.aK z.K.length z.cK, .slice z.ad z.dead.length z.cd] rfl rfl 32 _ hq0 (by kernel_rfl) rfl (by kernel_rfl) ?_
    have hNext : Below V.drew.heap.size V.drew ((w5.alloc (.cells #[.slice none 0 0, .slice none 0 0, .slice none 0 0] 32)).setRow (w5.heap.size) #[.slice z.ac z.ctx.length z.cc, .slice z.aK z.K.length z.cK, .slice z.ad z.dead.length z.cd]) := below_setRow hHeld (by omega : V.drew.heap.size ≤ w5.heap.size) #[.slice z.ac z.ctx.length z.cc, .slice z.aK z.K.length z.cK, .slice z.ad z.dead.length z.cd]
    refine y41 ?_
    clear hK K hHeld hNext
    intro hHeld
    refine tH (v := ?_) 12 6 rfl (Or.inl ⟨by rfl, ?_⟩) ?_
    case refine_2 => exact z61
    try simp only [pS]
    refine tH (v := ?_) 13 7 rfl (Or.inl ⟨by rfl, ?_⟩) ?_
    case refine_2 => exact z61
    refine y56 ?_
    obtain ⟨X, hX⟩ : ∃ X, X = (w5.alloc (.cells #[.slice none 0 0, .slice none 0 0, .slice none 0 0] 32)).setRow (w5.heap.size) #[.slice z.ac z.ctx.length z.cc, .slice z.aK z.K.length z.cK, .slice z.ad z.dead.length z.cd] := ⟨_, rfl⟩
    rw [← hX] at hHeld ⊢
    have hqX : RMAt X (w5.heap.size) z := by rw [hX]; exact setRow_heap _ _ _ _ _ _ hq0
    have hzX : RMIn X z := by
     rw [hX]
     exact RMIn.not3 (R := w5.heap.size) (hz5.keep ((Below.refl _ _).alloc (Nat.le_refl _) _)) ⟨_, _, _, _, _, _, _, _, _, _, _, hq0⟩ (fun k9 hk9 => bz _ _ _ _ (fun e9 => hk9 e9.symm))
    generalize hqn : w5.heap.size = q at *
    exact z16
   ·skip
    go_simp
    have hNext := hHeld.alloc hHeld.size (.cells #[.slice none 0 0, .slice none 0 0, .slice none 0 0] 32)
    refine y41 ?_
    clear hK K hHeld hNext
    intro hHeld
    replace hHeld : Below V.drew.heap.size V.drew (V.alloc (.cells #[.slice none 0 0, .slice none 0 0, .slice none 0 0] 32)).drew := hHeld
    refine rH 5 21 rfl fun K hK => ?_
    go_simp
    go_at_call 105
    (with_reducible refine (HAp.out _ (vI.keep hHeld) (vd.kept hHeld)).mono ?_)
    rintro v w5 ⟨z, rfl, hz5, hzr, hb5⟩
    go_simp
    have hNext := hHeld.trans (hb5.mono hHeld.size)
    refine y41 ?_
    clear hK K hHeld hNext
    intro hHeld
    refine tH (v := ?_) 6 15 rfl (Or.inl ⟨by rfl, ?_⟩) ?_
    case refine_2 => exact z61
    try simp only [pS]
    refine tH (v := ?_) 7 22 rfl (Or.inl ⟨by rfl, ?_⟩) ?_
    case refine_2 => exact z61
    try simp only [pS]
    refine tH (v := ?_) 8 23 rfl (Or.inl ⟨by rfl, ?_⟩) ?_
    case refine_2 => exact z61
    try simp only [pS]
    refine tH (v := ?_) 9 24 rfl (Or.inl ⟨by rfl, ?_⟩) ?_
    case refine_2 => exact z61
    try simp only [pS]
    refine wpAnyH_ready (rs := [11]) (by kernel_rfl) (by simp) ?_
    refine AllReadyH.cons (o := ⟨none, _, _, _, _, _⟩) rfl (fun K hK => ?_) AllReadyH.nil
    have hq0 : w5.heap[V.heap.size]? = some (.cells #[.slice none 0 0, .slice none 0 0, .slice none 0 0] 32 (0, 0)) := (hb5.block V.drew.heap.size (by show V.heap.size < (V.heap.push _).size; simp)).trans (bV V _)
    refine iH (by rfl) 32 _ _ rfl (V.heap.size) #[.slice z.ac z.ctx.length z.cc, .slice z.aK z.K.length z.cK, .slice z.ad z.dead.length z.cd] rfl rfl 32 _ hq0 (by kernel_rfl) rfl (by kernel_rfl) ?_
    have hNext : Below V.drew.heap.size V.drew (w5.setRow (V.heap.size) #[.slice z.ac z.ctx.length z.cc, .slice z.aK z.K.length z.cK, .slice z.ad z.dead.length z.cd]) := below_setRow hHeld (Nat.le_refl _ : V.drew.heap.size ≤ V.heap.size) #[.slice z.ac z.ctx.length z.cc, .slice z.aK z.K.length z.cK, .slice z.ad z.dead.length z.cd]
    refine y41 ?_
    clear hK K hHeld hNext
    intro hHeld
    refine tH (v := ?_) 12 6 rfl (Or.inl ⟨by rfl, ?_⟩) ?_
    case refine_2 => exact z61
    try simp only [pS]
    refine tH (v := ?_) 13 7 rfl (Or.inl ⟨by rfl, ?_⟩) ?_
    case refine_2 => exact z61
    refine y56 ?_
    obtain ⟨X, hX⟩ : ∃ X, X = w5.setRow (V.heap.size) #[.slice z.ac z.ctx.length z.cc, .slice z.aK z.K.length z.cK, .slice z.ad z.dead.length z.cd] := ⟨_, rfl⟩
    rw [← hX] at hHeld ⊢
    have hqX : RMAt X (V.heap.size) z := by rw [hX]; exact setRow_heap _ _ _ _ _ _ hq0
    have hzX : RMIn X z := by
     rw [hX]
     exact RMIn.not3 (R := V.heap.size) (hz5) ⟨_, _, _, _, _, _, _, _, _, _, _, hq0⟩ (fun k9 hk9 => bz _ _ _ _ (fun e9 => hk9 e9.symm))
    generalize hqn : V.heap.size = q at *
    exact z16
  ·obtain rfl : k = ls.length := by omega
   have hYe : y.rm = (aQ ls).foldl pU RM.empty := by rw [HY.out, List.take_of_length_le (by rw [aJ]; exact Nat.le_refl _)]
   have HE := Lib.hid hYe
   have HB := Lib.hid (And.intro hbw (And.intro hIn hAt))
   clear hYe hbw hIn hAt
   go_wp2_with (refine wpList_store_row rfl 32 _ _ rfl w.heap.size #[.slice y.ac y.ctx.length y.cc, .slice y.aK y.K.length y.cK, .slice y.ad y.dead.length y.cd] rfl rfl 32 _ hZr (by kernel_rfl) rfl (by kernel_rfl) ?_)
   refine fK 2 32 32 w.heap.size #[.slice y.ac y.ctx.length y.cc, .slice y.aK y.K.length y.cK, .slice y.ad y.dead.length y.cd] _ rfl rfl (setRow_heap _ _ _ _ _ _ hZr) Tryz.underlying32 rfl (by kernel_rfl) rfl ?_
   obtain ⟨hbw, hIn, hAt⟩ := HB.out
   have hbS := below_setRow hbw (Nat.le_refl _) #[.slice y.ac y.ctx.length y.cc, .slice y.aK y.K.length y.cK, .slice y.ad y.dead.length y.cd]
   exact ⟨y, rfl, RMIn.not3 (R := w.heap.size) hIn ⟨_, _, _, _, _, _, _, _, _, _, _, hZr⟩ (fun k9 hk9 => bz _ _ _ _ (fun e9 => hk9 e9.symm)), HE.out, hbS⟩
theorem uT {fn : Func} {p u : Tmp} {ty : TypeId} (h : fn.results = #[.tmp u, .cell p ty]) (tmps : Array Value) (P : Program) (w : World) :
 (results fn tmps).run P w =
  ((asAddr (tmps.getD p undef)).run P w).andThen fun a w₁ => ((loadVar ty a).run P w₁).andThen fun x w₂ => .ok (.tuple #[tmps.getD u undef, x]) w₂ := by
 simp only [results, h]
 simp [Sem.run_bind, Result.andThen]
theorem CS {P : Program} {fn : Func} {R : Ending → World → Prop} {a : Act} {w : World} (u p : Tmp) (ty t : TypeId) (g : Nat) (c : Array Value) (d : TypeDesc) (v : Value) (hr : fn.results = #[.tmp u, .cell p ty])
 (hp : a.tmps.getD p undef = .pointer (some ⟨g, 0, none⟩)) (hv : a.tmps.getD u undef = v) (hg : w.heap[g]? = some (.cells c t (0, 0))) (hu : P.underlying ty = some d) (hd : d.isRow = true) (hi : (P.info? ty).map (·.size) = some c.size)
 (hde : a.defers = []) (hR : R (.returned (.tuple #[v, .agg c])) w) : bodyPost P fn R .ret a w := by
 have h1 : w.rangeAt g 0 c.toList := fun j v hv => by
  exact z113
 have h2 := run_loadVar_mid (P := P) w g 0 ty c.toList d h1 hu hd (by simpa using hi)
 refine bodyPost_ret ?_ hde hR
 rw [uT hr, hp, hv]
 simp [asAddr, h2, Result.andThen]
/-- a map made of events, and the reference's -/
structure MadeIn (w : World) (m : Nat) (b : MB) (s : MS) (y : RMIt) (l : List Ev) (base : Nat) : Prop where
 map : MpIn w m b s
 inv : MInv s
 ref : RMIn w y
 rel : Rel s y.rm
 good : RMGood y.rm l.length
 ctx : s.ctx.length ≤ l.length
 dead : s.dead.length ≤ 64 * l.length
 low : ∀ k, foot b s.A k → base ≤ k
 merged : ∃ n f, Merged MS.empty l s n f
def OA (l : List Ev) (w : World) (e : Ending) (w' : World) : Prop := ∃ m b s y, e = .returned (.tuple #[.pointer (some ⟨m, 0, none⟩), nz y]) ∧ MadeIn w' m b s y l w.heap.size ∧ Below w.heap.size w w'
theorem MpIn.set3 {w : World} {m R : Nat} {b : MB} {s : MS} (h : MpIn w m b s) (hR : Sl3 w R) (hRf : ¬ foot b s.A R) (cs : Array Value) : MpIn (w.setRow R cs) m b s := by
 have hk : ∀ k, k ≠ R → (w.setRow R cs).heap[k]? = w.heap[k]? := fun k hk => bz _ _ _ _ (fun e => hk e.symm)
 have hm : m ≠ R := fun e => by
  obtain ⟨a, n, c, a2, n2, c2, a3, n3, c3, t, f, hh⟩ := hR
  have := h.cell
  rw [e, hh] at this
  simp at this
 have hv : b.v ≠ R := fun e => by
  obtain ⟨a, n, c, a2, n2, c2, a3, n3, c3, t, f, hh⟩ := hR
  have := h.vec.cell
  rw [e, hh] at this
  simp at this
 have hf : ∀ k, foot b s.A k → k ≠ R := fun k hk e => hRf (e ▸ hk)
 exact ⟨(hk m hm).trans h.cell, h.vec.block (hk _ hv) (hk _ (hf _ (uo b _))), h.kept.block (hk _ (hf _ (kL b _))), fun x hx => (h.overs x hx).not3 hR hk, h.dead.block (hk _ (hf _ (jI b _))), h.alive.block (hk _ (hf _ (iC b _))), fun p hp => (h.inner p hp).block (hk _ (hf _ (kM b hp))), h.some, h.keys, h.nodup⟩
theorem GR (a : Option Addr) (cap : Nat) (ls : List bg) (w : World) (hl : ls.length ≤ 4095) (hE : EvsIn w a ls) (hsm : iq ls) :
 Calls Tryz.prog 12 #[.slice a ls.length cap] w (OA (aQ ls) w) := by
 have HN := Lib.hid (fun X => yZ X)
 have HFo := Lib.hid (fun (X : World) (hE : EvsIn X a ls) => JA a cap ls X hl hE hsm)
 have HSM := Lib.hid hsm
 go_enter Tryz.func12, Tryz.ntmps12
 go_upto_region 2 with (go_at_call 16; (with_reducible refine (HN.out _).mono ?_); rintro x w1 ⟨m, b, rfl, hm, hb1, hlo, hfo⟩)
 have Ru : Below w.heap.size w (w.alloc (.cells #[.slice none 0 0, .slice none 0 0, .slice none 0 0] 32)) := (Below.refl _ _).alloc (Nat.le_refl _) _
 have hsz1 : (w.alloc (.cells #[.slice none 0 0, .slice none 0 0, .slice none 0 0] 32)).heap.size = w.heap.size + 1 := by simp
 have hZ : w1.heap[w.heap.size]? = some (.cells #[.slice none 0 0, .slice none 0 0, .slice none 0 0] 32 (0, 0)) := (hb1.block _ (by simp)).trans (bV _ _)
 have E5 : Below w.heap.size w w1 := Ru.trans (hb1.mono (by simp))
 have SI : ∀ k, foot b [] k → w.heap.size + 1 ≤ k := fun k hk => by have := hfo k hk; omega
 clear Ru hsz1 hb1 hfo hlo HN
 go_wp2
 go_loopw [5] (fun i wr => ∃ (k : Nat) (s : MS) (n : Nat) (f : Int), i = .int .i64 k ∧ k ≤ ls.length ∧ MpIn wr m b s ∧ Merged MS.empty ((aQ ls).take k) s n f ∧ (∀ q, foot b s.A q → w.heap.size + 1 ≤ q) ∧ wr.heap[w.heap.size]? = some (.cells #[.slice none 0 0, .slice none 0 0, .slice none 0 0] 32 (0, 0)) ∧ Below w.heap.size w wr) (fun i _ => ls.length - (intOf i).toNat)
 case atStart => exact ⟨0, MS.empty, 0, 0, rfl, Nat.zero_le _, hm, Merged.nil, SI, hZ, E5⟩
 case round =>
  obtain ⟨k, s, n, f, rfl, hk, hmr, hM, hfr, hZr, hbw⟩ := hrel
  obtain ⟨hi, g1, g2, g3⟩ := hM.facts MInv.empty
  rw [List.length_take, aJ] at g1 g2 g3
  have hMe : MS.empty.ctx.length = 0 ∧ MS.empty.dead.length = 0 := ⟨rfl, rfl⟩
  have HM := Lib.hid hM
  by_cases hlt : k < ls.length
  ·obtain ⟨A, off, rfl, hra, hda⟩ := (hE.kept hbw).at hlt
   have r1 := hra k hlt
   have hse := HSM.out _ (List.getElem_mem hlt)
   have HT : Hid ((aQ ls).take (k + 1) = (aQ ls).take k ++ [ls[k].1]) := by
        exact z45
   have HLT := Lib.hid hlt
   have hkl : k ≤ 4095 := by omega
   generalize ls[k] = x at *
   obtain ⟨e, ax, cx⟩ := x
   simp only [jP] at r1
   simp only at hda hse HT
   have hn0 : ax = none → e.over = [] := fun hn => by rcases hda with h | ⟨A, off, h3, _⟩; exact h; rw [hn] at h3; cases h3
   have HAp := Lib.hid (GX e ax cx wr hmr hi hse hda hn0 (by omega) (by omega))
   have HB := Lib.hid (And.intro hbw (And.intro hfr (And.intro hZr hmr)))
   clear hra hse hda hM hmr hfr hZr hi g1 g2 g3 hbw hn0
   go_wp2_with (first
        | ((with_reducible refine aY _ A (off + k * 19) e ax cx r1 ?_ rfl ?_); exact rfl)
        | (go_at_call 48; (with_reducible refine HAp.out.mono ?_); rintro v w2 ⟨s2, rfl, hm2, hf2, QZ, Hy⟩))
   have HZ : Hid (MpIn w2 m b s2 ∧ Merged MS.empty ((aQ ls).take (k + 1)) s2 (if jJ s e = true then n + 1 else n) (if f = 0 then kR s e else f) ∧ (∀ q, foot b s2.A q → w.heap.size + 1 ≤ q) ∧ w2.heap[w.heap.size]? = some (.cells #[.slice none 0 0, .slice none 0 0, .slice none 0 0] 32 (0, 0)) ∧ Below w.heap.size w w2) := by
        obtain ⟨hbw, hfr, hZr, hmr⟩ := HB.out
        refine ⟨hm2, by rw [HT.out]; exact Merged.snoc HM.out Hy, fun q hq => ?_, (hf2.block _ (lt_of_block hZr) (fun hq => by have := hfr _ hq; omega)).trans hZr, hbw.trans (hf2.below hbw.size (fun q hq => by have := hfr q hq; omega))⟩
        rcases QZ q hq with h3 | h3
        ·exact hfr q h3
        ·have := lt_of_block hZr; omega
   clear hm2 hf2 QZ Hy HAp r1
   go_roundw
   case rel => exact ⟨k + 1, s2, _, _, by go_num, HLT.out, HZ.out.1, HZ.out.2.1, HZ.out.2.2.1, HZ.out.2.2.2.1, HZ.out.2.2.2.2⟩
   case measure => exact z64
  ·obtain rfl : k = ls.length := by omega
   have hM2 : Merged MS.empty (aQ ls) s n f := by
        have := HM.out
        rwa [List.take_of_length_le (by rw [aJ]; exact Nat.le_refl _)] at this
   have Tt := Lib.hid (HFo.out wr (hE.kept hbw))
   have HB := Lib.hid (And.intro hbw (And.intro hfr (And.intro hmr (And.intro hi hM2))))
   have SX := lt_of_block hZr
   clear hM hmr hfr hi hM2 HM g1 g2 g3
   go_upto_region 6 with fail
   refine aX (fun W hW => ?_)
   have hWe : W = wr := hW.out
   subst hWe
   clear hW
   go_wp2_with (first
        | (go_at_call 49; (with_reducible refine Tt.out.mono ?_); rintro v w3 ⟨y, rfl, hIn, hy, hb3⟩; have hZ3 := (hb3.block _ SX).trans hZr)
        | (refine wpList_store_row rfl 32 _ _ rfl w.heap.size #[.slice y.ac y.ctx.length y.cc, .slice y.aK y.K.length y.cK, .slice y.ad y.dead.length y.cd] rfl rfl 32 _ hZ3 (by kernel_rfl) rfl (by kernel_rfl) ?_))
   refine CS 2 3 32 32 w.heap.size #[.slice y.ac y.ctx.length y.cc, .slice y.aK y.K.length y.cK, .slice y.ad y.dead.length y.cd] _ _ rfl rfl rfl (setRow_heap _ _ _ _ _ _ hZ3) Tryz.underlying32 rfl (by kernel_rfl) rfl ?_
   obtain ⟨hbw, hfr, hmr, hi, hM2⟩ := HB.out
   have hS3 : Sl3 w3 w.heap.size := ⟨_, _, _, _, _, _, _, _, _, _, _, hZ3⟩
   obtain ⟨_, g1, g2, _⟩ := hM2.facts MInv.empty
   rw [hMe.1] at g1
   rw [hMe.2] at g2
   have hgood := RMGood.empty.fold (aQ ls)
   rw [← hy, Nat.zero_add] at hgood
   have hrel := hM2.rel Rel.empty MInv.empty
   rw [← hy] at hrel
   have hbS := below_setRow (hbw.trans (hb3.mono hbw.size)) (Nat.le_refl _) (wG y)
   exact ⟨m, b, s, y, rfl, ⟨(hmr.kept_w hb3).set3 hS3 (fun hq => by have := hfr _ hq; omega) _, hi, RMIn.not3 (R := w.heap.size) hIn hS3 (fun k9 hk9 => bz _ _ _ _ (fun e9 => hk9 e9.symm)), hrel, hgood, by omega, by omega, fun q hq => by have := hfr q hq; omega, ⟨n, f, hM2⟩⟩, hbS⟩
end Go.Proofs.YtdlmbflhbecggaaGreat
