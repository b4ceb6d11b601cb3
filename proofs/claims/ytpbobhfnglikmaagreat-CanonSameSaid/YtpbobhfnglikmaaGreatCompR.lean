/- The reference's map: find, Forget, Bare, Clear. Conditions: as in the text. -/
import Derived.Test.YtpbobhfnglikmaaGreatStepP
set_option linter.unusedSimpArgs false
set_option linter.unusedVariables false
set_option linter.unnecessarySimpa false
set_option maxHeartbeats 16000000
set_option maxRecDepth 100000
namespace Go.Proofs.YtpbobhfnglikmaaGreat
open Go.RowKit
/-! ### the answers, plainly -/
def rmFgOk (r : RM) (d : Dot) : Bool := r.kept.any fun e => decide (e.dot = d) && (!decide (e.kind = 1) || decide (d ∈ r.dead))
def rmFg (r : RM) (d : Dot) : RM := if rmFgOk r d = true then ⟨r.ctx, r.kept.filter (fun e => decide (e.dot ≠ d)), r.dead⟩ else r
def bareEv (e : Ev) : Ev := { e with over := [] }
def rmBrOk (r : RM) (d : Dot) : Bool := r.kept.any fun e => decide (e.dot = d) && (decide (e.kind = 1) && !decide (e.over.length = 0))
def rmBr (r : RM) (d : Dot) : RM := if rmBrOk r d = true then ⟨r.ctx, r.kept.map (fun e => if e.dot = d then bareEv e else e), r.dead⟩ else r
def rmClOk (r : RM) (d : Dot) : Bool := decide (d ∈ r.dead) && (hasM r.ctx d && !(r.kept.any fun e => decide (e.dot = d)))
def rmCl (r : RM) (d : Dot) : RM := if rmClOk r d = true then ⟨r.ctx, r.kept, r.dead.filter fun x => decide (x ≠ d)⟩ else r
/-! ### find -/
/-! ### Bare -/
theorem SrtE.filter {l : List Ev} (p : Ev → Bool) (h : SrtE l) : SrtE (l.filter p) := List.Pairwise.sublist List.filter_sublist h
theorem Rel.any_eq {s : MS} {r : RM} (h : Rel s r) (p q : Ev → Bool) (e : ∀ x, p x = q x) : (s.K.any fun x => p x.1) = r.kept.any q := by
 rw [h.kept, Bool.eq_iff_iff, List.any_eq_true, List.any_eq_true]
 constructor
 ·rintro ⟨x, hx, h2⟩
  exact ⟨x.1, (eventsOf_mem h.nd).2 ⟨x, hx, rfl⟩, by rw [← e]; exact h2⟩
 ·rintro ⟨x, hx, h2⟩
  obtain ⟨z, hz, rfl⟩ := (eventsOf_mem h.nd).1 hx
  exact ⟨z, hz, by rw [e]; exact h2⟩
theorem Rel.inDead {s : MS} {r : RM} (h : Rel s r) (d : Dot) : decide (d ∈ s.dead) = decide (d ∈ r.dead) := decide_eq_decide.2 (by rw [h.dead, sortD_mem])
theorem Rel.okFg {s : MS} {r : RM} (h : Rel s r) (d : Dot) : fgOk s d = rmFgOk r d :=
 h.any_eq (fun e => decide (e.dot = d) && (!decide (e.kind = 1) || decide (d ∈ s.dead))) _ fun x => by rw [h.inDead]
theorem Rel.okBr {s : MS} {r : RM} (h : Rel s r) (d : Dot) : brOk s d = rmBrOk r d :=
 h.any_eq (fun e => decide (e.dot = d) && (decide (e.kind = 1) && !decide (e.over.length = 0))) _ fun _ => rfl
theorem inK_any (K : List EvIt) (d : Dot) : inK K d = K.any fun x => decide (x.1.dot = d) := rfl
theorem Rel.okCl {s : MS} {r : RM} (h : Rel s r) (d : Dot) : clOk s d = rmClOk r d := by
 unfold clOk rmClOk
 rw [h.inDead, h.ctx, inK_any, h.any_eq (fun e => decide (e.dot = d)) (fun e => decide (e.dot = d)) fun _ => rfl]
theorem Rel.fg {s : MS} {r : RM} (h : Rel s r) (d : Dot) : Rel (fgMS s d) (rmFg r d) := by
 unfold fgMS rmFg
 rw [h.okFg]
 split
 ·refine ⟨lessK_nd d h.nd, h.ctx, ?_, h.dead⟩
  show r.kept.filter _ = _
  rw [h.kept]
  refine srtE_ext (SrtE.filter _ (eventsOf_srt h.nd)) (eventsOf_srt (s := { s with K := lessK s.K d }) (lessK_nd d h.nd)) fun x => ?_
  rw [List.mem_filter, eventsOf_mem h.nd, eventsOf_mem (s := { s with K := lessK s.K d }) (lessK_nd d h.nd), decide_eq_true_eq]
  constructor
  ·rintro ⟨⟨y, hy, rfl⟩, h2⟩
   exact ⟨y, lessK_mem.2 ⟨hy, h2⟩, rfl⟩
  ·rintro ⟨y, hy, rfl⟩
   exact ⟨⟨y, (lessK_mem.1 hy).1, rfl⟩, (lessK_mem.1 hy).2⟩
 ·exact h
theorem Rel.br {s s' : MS} {r : RM} (h : Rel s r) (d : Dot) (hn : (s'.K.map (·.1.dot)).Nodup) (hs : if brOk s d = true then ∃ y ∈ s.K, y.1.dot = d ∧ s' = { s with K := bareIt y :: lessK s.K d } else s' = s) : Rel s' (rmBr r d) := by
 unfold rmBr
 rw [h.okBr] at hs
 split
 ·rename_i hok
  rw [if_pos hok] at hs
  obtain ⟨y, hy, hyd, rfl⟩ := hs
  refine ⟨hn, h.ctx, ?_, h.dead⟩
  show r.kept.map _ = _
  rw [h.kept]
  refine srtE_ext ?_ (eventsOf_srt hn) fun x => ?_
  ·refine List.pairwise_map.2 ((eventsOf_srt h.nd).imp fun {a b} hab => ?_)
   have e : ∀ z : Ev, (if z.dot = d then bareEv z else z).dot = z.dot := fun z => by split <;> rfl
   rw [e, e]
   exact hab
  ·rw [List.mem_map, eventsOf_mem hn]
   constructor
   ·rintro ⟨z, hz, rfl⟩
    obtain ⟨q, hq, rfl⟩ := (eventsOf_mem h.nd).1 hz
    by_cases hqd : q.1.dot = d
    ·have := same_kept h.nd hq hy (hqd.trans hyd.symm)
     exact ⟨bareIt y, List.mem_cons_self, by rw [if_pos hqd, this]; rfl⟩
    ·exact ⟨q, List.mem_cons_of_mem _ (lessK_mem.2 ⟨hq, hqd⟩), by rw [if_neg hqd]⟩
   ·rintro ⟨q, hq, rfl⟩
    rcases List.mem_cons.1 hq with rfl | hq
    ·exact ⟨y.1, (eventsOf_mem h.nd).2 ⟨y, hy, rfl⟩, by rw [if_pos hyd]; rfl⟩
    ·exact ⟨q.1, (eventsOf_mem h.nd).2 ⟨q, (lessK_mem.1 hq).1, rfl⟩, by rw [if_neg (lessK_mem.1 hq).2]⟩
 ·rename_i hok
  rw [if_neg hok] at hs
  subst hs
  exact h
theorem Rel.cl {s : MS} {r : RM} (h : Rel s r) (d : Dot) : Rel (clMS s d) (rmCl r d) := by
 unfold clMS rmCl
 rw [h.okCl]
 split
 ·refine ⟨h.nd, h.ctx, h.kept, ?_⟩
  show r.dead.filter _ = _
  rw [h.dead]
  refine srtD_ext (List.Pairwise.sublist List.filter_sublist (sortD_srt _)) (sortD_srt _) fun x => ?_
  rw [List.mem_filter, sortD_mem, sortD_mem, List.mem_filter]
 ·exact h
/-- the reference's sizes, of the map's -/
theorem SGood.sizes {s : MS} {n : Nat} {r : RM} (h : SGood s n) (hr : Rel s r) : r.ctx.length ≤ n ∧ r.kept.length ≤ 2048 ∧ r.dead.length ≤ 64 * n := by
 refine ⟨by rw [hr.ctx]; exact h.ctx, by rw [hr.kept, eventsOf_len hr.nd]; exact h.inv.len, ?_⟩
 rw [hr.dead]
 exact Nat.le_trans (sortD_length _) h.dead
def setl (v : List Dot) (e : Ev) : Bool := hasM v e.dot && e.over.all fun d => hasM v d
def isDead (r : RM) (e : Ev) : Bool := decide (e.kind = 1) && decide (e.dot ∈ r.dead)
def cpEv (v : List Dot) (r : RM) (e : Ev) : RM :=
 if ((isDead r e && hasM v e.dot) || (decide (e.kind = 2) && setl v e)) = true then rmFg r e.dot
 else if (!isDead r e && setl v e) = true then rmBr r e.dot else r
def cpCl (v : List Dot) (r : RM) (d : Dot) : RM := if hasM v d = true then rmCl r d else r
def cpEvs (v : List Dot) (r : RM) : RM := r.kept.foldl (cpEv v) r
def cpDo (v : List Dot) (r : RM) : RM := (cpEvs v r).dead.foldl (cpCl v) (cpEvs v r)
/-- as the program asks -/
theorem cpEv_eq (v : List Dot) (r : RM) (e : Ev) : cpEv v r e = if (!hasM v e.dot || (!isDead r e && !setl v e)) = true then r else if (isDead r e || decide (e.kind = 2)) = true then rmFg r e.dot else rmBr r e.dot := by
 unfold cpEv
 have h0 : hasM v e.dot = false → setl v e = false := fun h => by unfold setl; rw [h]; rfl
 have h1 : isDead r e = true → decide (e.kind = 2) = false := fun h => by
  unfold isDead at h
  simp only [Bool.and_eq_true, decide_eq_true_eq] at h
  rw [h.1]; rfl
 cases hv : hasM v e.dot <;> cases hd : isDead r e <;> cases hk : decide (e.kind = 2) <;> cases hs : setl v e <;> simp_all
/-! ### what it is in the end -/
theorem rmFg_at {ctx dead : List Dot} {p q : List Ev} {e : Ev} (hn : ((p ++ e :: q).map (·.dot)).Nodup) (hk : e.kind ≠ 1 ∨ e.dot ∈ dead) : rmFg ⟨ctx, p ++ e :: q, dead⟩ e.dot = ⟨ctx, p ++ q, dead⟩ := by
 have hok : rmFgOk ⟨ctx, p ++ e :: q, dead⟩ e.dot = true := List.any_eq_true.2 ⟨e, by simp, by
  simp only [Bool.and_eq_true, decide_eq_true_eq, Bool.or_eq_true, Bool.not_eq_true', decide_eq_false_iff_not]
  exact ⟨trivial, hk⟩⟩
 unfold rmFg
 rw [if_pos hok]
 show (⟨ctx, (p ++ e :: q).filter _, dead⟩ : RM) = _
 rw [List.map_append, List.map_cons, List.nodup_append] at hn
 obtain ⟨h1, h2, h3⟩ := hn
 rw [List.nodup_cons] at h2
 have hp : p.filter (fun x => decide (x.dot ≠ e.dot)) = p := List.filter_eq_self.2 fun x hx => decide_eq_true fun e2 => h3 _ (List.mem_map_of_mem hx) _ List.mem_cons_self e2
 have hq : q.filter (fun x => decide (x.dot ≠ e.dot)) = q := List.filter_eq_self.2 fun x hx => decide_eq_true fun e2 => h2.1 (e2 ▸ List.mem_map_of_mem (f := fun x : Ev => x.dot) hx)
 rw [List.filter_append, List.filter_cons_of_neg (by simp), hp, hq]
theorem bareEv_self {e : Ev} (h : e.over = []) : bareEv e = e := by cases e; simp only at h; subst h; rfl
theorem rmBr_at {ctx dead : List Dot} {p q : List Ev} {e : Ev} (hn : ((p ++ e :: q).map (·.dot)).Nodup) (hk : e.kind = 1) : rmBr ⟨ctx, p ++ e :: q, dead⟩ e.dot = ⟨ctx, p ++ bareEv e :: q, dead⟩ := by
 rw [List.map_append, List.map_cons, List.nodup_append] at hn
 obtain ⟨h1, h2, h3⟩ := hn
 rw [List.nodup_cons] at h2
 have hnp : ∀ x ∈ p, x.dot ≠ e.dot := fun x hx e2 => h3 _ (List.mem_map_of_mem hx) _ List.mem_cons_self e2
 have hnq : ∀ x ∈ q, x.dot ≠ e.dot := fun x hx e2 => h2.1 (e2 ▸ List.mem_map_of_mem (f := fun x : Ev => x.dot) hx)
 unfold rmBr
 split
 ·show (⟨ctx, (p ++ e :: q).map _, dead⟩ : RM) = _
  have hp : p.map (fun x => if x.dot = e.dot then bareEv x else x) = p := by
   conv => rhs; rw [← List.map_id p]
   exact List.map_congr_left fun x hx => by rw [if_neg (hnp x hx)]; rfl
  have hq : q.map (fun x => if x.dot = e.dot then bareEv x else x) = q := by
   conv => rhs; rw [← List.map_id q]
   exact List.map_congr_left fun x hx => by rw [if_neg (hnq x hx)]; rfl
  rw [List.map_append, List.map_cons, hp, hq, if_pos rfl]
 ·rename_i hok
  have ho : e.over = [] := by
   by_cases ho : e.over = []
   ·exact ho
   ·refine absurd (List.any_eq_true.2 ⟨e, by simp, ?_⟩) hok
    simp only [Bool.and_eq_true, decide_eq_true_eq, Bool.not_eq_true', decide_eq_false_iff_not]
    exact ⟨trivial, hk, fun h => ho (List.length_eq_zero_iff.1 h)⟩
  rw [bareEv_self ho]
/-- what is left of an event -/
def cpOf (v dead : List Dot) (e : Ev) : Option Ev :=
 if ((decide (e.kind = 1) && decide (e.dot ∈ dead) && hasM v e.dot) || (decide (e.kind = 2) && setl v e)) = true then none
 else if (!(decide (e.kind = 1) && decide (e.dot ∈ dead)) && setl v e) = true then some (bareEv e) else some e
theorem cpOf_dot {v dead : List Dot} {e x : Ev} (h : cpOf v dead e = some x) : x.dot = e.dot := by
 unfold cpOf at h
 split at h
 ·cases h
 ·split at h
  ·cases h; rfl
  ·cases h; rfl
theorem cpOf_sub {v dead : List Dot} : ∀ (l : List Ev), ((l.filterMap (cpOf v dead)).map (·.dot)).Sublist (l.map (·.dot))
 | [] => by simp
 | e :: l => by
   rw [List.filterMap_cons]
   cases h : cpOf v dead e with
   | none => exact (cpOf_sub l).cons _
   | some x =>
     show ((x :: l.filterMap (cpOf v dead)).map (·.dot)).Sublist _
     rw [List.map_cons, List.map_cons, cpOf_dot h]
     exact (cpOf_sub l).cons_cons _
theorem cpFold {v ctx dead : List Dot} : ∀ (q p : List Ev), (∀ e ∈ q, e.kind = 1 ∨ e.kind = 2) → ((p ++ q).map (·.dot)).Nodup → q.foldl (cpEv v) ⟨ctx, p ++ q, dead⟩ = ⟨ctx, p ++ q.filterMap (cpOf v dead), dead⟩
 | [], p, _, _ => rfl
 | e :: q, p, hk, hn => by
   have hke := hk e List.mem_cons_self
   have hn2 : ((p ++ q).map (·.dot)).Nodup := hn.sublist (by simp)
   rw [List.foldl_cons, List.filterMap_cons]
   have hI : isDead ⟨ctx, p ++ e :: q, dead⟩ e = (decide (e.kind = 1) && decide (e.dot ∈ dead)) := rfl
   unfold cpEv cpOf
   rw [hI]
   split
   ·rename_i h1
    have h2 : e.kind ≠ 1 ∨ e.dot ∈ dead := by
        simp only [Bool.or_eq_true, Bool.and_eq_true, decide_eq_true_eq] at h1
        rcases h1 with h1 | h1
        ·exact Or.inr h1.1.2
        ·exact Or.inl (by rw [h1.1]; decide)
    rw [rmFg_at hn h2]
    exact cpFold q p (fun e he => hk e (List.mem_cons_of_mem _ he)) hn2
   ·rename_i h1
    split
    ·rename_i h2
     have h3 : e.kind = 1 := by
      rcases hke with h | h
      ·exact h
      ·exfalso
       apply h1
       simp only [Bool.and_eq_true] at h2
       rw [h2.2, h]
       simp
     rw [rmBr_at hn h3]
     have h4 := cpFold (v := v) (ctx := ctx) (dead := dead) q (p ++ [bareEv e]) (fun e he => hk e (List.mem_cons_of_mem _ he)) (by simpa [bareEv] using hn)
     show q.foldl (cpEv v) ⟨ctx, p ++ bareEv e :: q, dead⟩ = ⟨ctx, p ++ bareEv e :: q.filterMap (cpOf v dead), dead⟩
     simpa using h4
    ·have h4 := cpFold (v := v) (ctx := ctx) (dead := dead) q (p ++ [e]) (fun e he => hk e (List.mem_cons_of_mem _ he)) (by simpa using hn)
     show q.foldl (cpEv v) ⟨ctx, p ++ e :: q, dead⟩ = ⟨ctx, p ++ e :: q.filterMap (cpOf v dead), dead⟩
     simpa using h4
def Kinds (r : RM) : Prop := ∀ e ∈ r.kept, e.kind = 1 ∨ e.kind = 2
theorem cpEvs_is {v : List Dot} {r : RM} (hk : Kinds r) (hn : (r.kept.map (·.dot)).Nodup) : cpEvs v r = ⟨r.ctx, r.kept.filterMap (cpOf v r.dead), r.dead⟩ :=
 cpFold r.kept [] hk hn
def clrd (v : List Dot) (r : RM) (d : Dot) : Bool := hasM v d && (hasM r.ctx d && !(r.kept.any fun e => decide (e.dot = d)))
theorem clFold {v ctx : List Dot} {K : List Ev} : ∀ (l dead : List Dot), l.foldl (cpCl v) ⟨ctx, K, dead⟩ = ⟨ctx, K, dead.filter fun d => !(decide (d ∈ l) && clrd v ⟨ctx, K, []⟩ d)⟩
 | [], dead => by
   have : dead.filter (fun d => !(decide (d ∈ ([] : List Dot)) && clrd v ⟨ctx, K, []⟩ d)) = dead := List.filter_eq_self.2 fun d _ => by simp
   rw [this]; rfl
 | d :: l, dead => by
   rw [List.foldl_cons]
   have hstep : cpCl v ⟨ctx, K, dead⟩ d = ⟨ctx, K, dead.filter fun x => !(decide (x = d) && clrd v ⟨ctx, K, []⟩ x)⟩ := by
     unfold cpCl rmCl rmClOk
     cases hv : hasM v d with
     | false =>
       rw [if_neg (by simp)]
       congr 1
       refine (List.filter_eq_self.2 fun x _ => ?_).symm
       by_cases hx : x = d
       ·subst hx; simp [clrd, hv]
       ·simp [hx]
     | true =>
       rw [if_pos rfl]
       split
       ·rename_i h
        congr 1
        refine List.filter_congr fun x _ => ?_
        by_cases hx : x = d
        ·subst hx
         simp only [Bool.and_eq_true] at h
         simp only [ne_eq, not_true, decide_false, decide_true, Bool.true_and]
         unfold clrd
         rw [hv]
         simp only [Bool.true_and]
         rw [h.2.1, h.2.2]
         rfl
        ·simp [hx]
       ·rename_i h
        congr 1
        refine (List.filter_eq_self.2 fun x hx => ?_).symm
        by_cases hxd : x = d
        ·subst hxd
         simp only [decide_true, Bool.true_and]
         cases hc : clrd v ⟨ctx, K, []⟩ x with
         | false => rfl
         | true =>
           exfalso
           apply h
           unfold clrd at hc
           rw [Bool.and_eq_true] at hc
           rw [Bool.and_eq_true, decide_eq_true_eq]
           exact ⟨hx, hc.2⟩
        ·simp [hxd]
   rw [hstep, clFold l, List.filter_filter]
   congr 1
   refine List.filter_congr fun x _ => ?_
   by_cases hx : x = d
   ·subst hx; simp
    cases clrd v ⟨ctx, K, []⟩ x <;> simp
   ·simp [hx]
theorem cpDo_is {v : List Dot} {r : RM} (hk : Kinds r) (hn : (r.kept.map (·.dot)).Nodup) :
 cpDo v r = ⟨r.ctx, r.kept.filterMap (cpOf v r.dead), r.dead.filter fun d => !clrd v ⟨r.ctx, r.kept.filterMap (cpOf v r.dead), []⟩ d⟩ := by
 unfold cpDo
 rw [cpEvs_is hk hn]
 show r.dead.foldl (cpCl v) ⟨r.ctx, r.kept.filterMap (cpOf v r.dead), r.dead⟩ = _
 rw [clFold]
 congr 1
 exact List.filter_congr fun d hd => by rw [decide_eq_true hd, Bool.true_and]
def alvB (r : RM) (e : Ev) : Bool := decide (e.kind = 1) && !decide (e.dot ∈ r.dead)
def aliveR (r : RM) : List Ev := r.kept.filter (alvB r)
theorem alvB_iff {r : RM} {e : Ev} : alvB r e = true ↔ e.kind = 1 ∧ e.dot ∉ r.dead := by
 unfold alvB
 rw [Bool.and_eq_true, decide_eq_true_eq, Bool.not_eq_true', decide_eq_false_iff_not]
theorem aliveR_mem {r : RM} {e : Ev} : e ∈ aliveR r ↔ e ∈ r.kept ∧ e.kind = 1 ∧ e.dot ∉ r.dead := by
 unfold aliveR
 rw [List.mem_filter, alvB_iff]
/-- what holds of a reference's map -/
structure RMInv (r : RM) : Prop where
 srt : SrtE r.kept
 mrk : SrtM r.ctx
 has : ∀ e ∈ r.kept, hasM r.ctx e.dot = true
 kind : Kinds r
theorem SrtE.nd {l : List Ev} (h : SrtE l) : (l.map (·.dot)).Nodup := List.pairwise_map.2 (h.imp fun {a b} h e => by rw [e, dotLt_irrefl] at h; cases h)
theorem evOk_kind {e : Ev} (h : evOk e = true) : e.kind = 1 ∨ e.kind = 2 := by
 unfold evOk at h
 simp only [Bool.and_eq_true] at h
 have h5 := h.2.2.2.2
 unfold kindOk at h5
 by_cases h2 : e.kind = 2
 ·exact Or.inr h2
 ·rw [if_neg h2] at h5
  by_cases h1 : e.kind = 1
  ·exact Or.inl h1
  ·rw [if_neg h1] at h5
   cases h5
theorem Rel.rinv {s : MS} {r : RM} (h : Rel s r) (hi : MInv s) : RMInv r := by
 refine ⟨by rw [h.kept]; exact eventsOf_srt h.nd, by rw [h.ctx]; exact hi.ctx, fun e he => ?_, fun e he => ?_⟩
 ·rw [h.kept] at he
  obtain ⟨x, hx, rfl⟩ := (eventsOf_mem h.nd).1 he
  rw [h.ctx]
  exact (hi.kept x hx).2
 ·rw [h.kept] at he
  obtain ⟨x, hx, rfl⟩ := (eventsOf_mem h.nd).1 he
  exact evOk_kind (hi.kept x hx).1
theorem RMInv.ap {r : RM} (h : RMInv r) (e : Ev) : RMInv (rmAp r e) := by
 unfold rmAp
 split
 ·rename_i hok
  unfold rmOk at hok
  simp only [Bool.and_eq_true, Bool.not_eq_true', decide_eq_true_eq] at hok
  obtain ⟨h1, h2, h3, _⟩ := hok
  have hne : ∀ x ∈ r.kept, x.dot ≠ e.dot := fun x hx e2 => by
   have := h.has x hx
   rw [e2, h2] at this
   cases this
  have hd : dotOk e.dot = true := (evOk_parts h1).1
  refine ⟨insE_srt h.srt hne, ?_, fun x hx => ?_, fun x hx => ?_⟩
  ·show SrtM (rsetM r.ctx e.dot.a e.dot.seq)
   rw [rsetM_srt h.mrk]
   exact setM_srt h.mrk
  ·show hasM (rsetM r.ctx e.dot.a e.dot.seq) x.dot = true
   rw [rsetM_srt h.mrk]
   rcases insE_mem.1 hx with rfl | hx
   ·rw [hasM_set hd h3]; simp
   ·have h9 := h.has x hx
    rw [hasM_set (hasM_ok h9).1 h3, h9]; rfl
  ·rcases insE_mem.1 hx with rfl | hx
   ·exact evOk_kind h1
   ·exact h.kind x hx
 ·exact h
/-! ### by its own context -/
/-! ### compacted, and more events -/
structure CK (c r : RM) : Prop where
 ic : RMInv c
 ir : RMInv r
 ctx : c.ctx = r.ctx
 alive : (aliveR c).map bareEv = (aliveR r).map bareEv
 sub : ∀ d ∈ c.dead, d ∈ r.dead
 gone : ∀ d ∈ r.dead, d ∉ c.dead → hasM r.ctx d = true
theorem CK.of {r : RM} (h : RMInv r) (v : List Dot) : CK (cpDo v r) r := by
 have hE := cpDo_is (v := v) h.kind h.srt.nd
 obtain ⟨K', hK'⟩ : ∃ K', K' = r.kept.filterMap (cpOf v r.dead) := ⟨_, rfl⟩
 rw [← hK'] at hE
 have hmem : ∀ x, x ∈ K' → ∃ e ∈ r.kept, cpOf v r.dead e = some x := fun x hx => by
  rw [hK', List.mem_filterMap] at hx
  exact hx
 have hdot : ∀ {e x : Ev}, cpOf v r.dead e = some x → x.dot = e.dot ∧ x.kind = e.kind ∧ bareEv x = bareEv e := fun {e x} hx => by
  unfold cpOf at hx
  split at hx
  ·cases hx
  ·split at hx
   ·cases hx; exact ⟨rfl, rfl, rfl⟩
   ·cases hx; exact ⟨rfl, rfl, rfl⟩
 have hsr : SrtE K' := by
  have h1 := cpOf_sub (v := v) (dead := r.dead) r.kept
  rw [← hK'] at h1
  have h5 : (r.kept.map (·.dot)).Pairwise fun a b => dotLt a b = true := List.pairwise_map.2 h.srt
  exact List.pairwise_map.1 (h5.sublist h1)
 rw [hE]
 refine ⟨⟨hsr, h.mrk, fun x hx => ?_, fun x hx => ?_⟩, h, rfl, ?_, fun d hd => (List.mem_filter.1 hd).1, fun d hd hn => ?_⟩
 ·obtain ⟨e, he, h2⟩ := hmem x hx
  rw [(hdot h2).1]
  exact h.has e he
 ·obtain ⟨e, he, h2⟩ := hmem x hx
  rw [(hdot h2).2.1]
  exact h.kind e he
 ·refine srtE_ext (List.pairwise_map.2 ((hsr.sublist List.filter_sublist).imp fun {a b} h => h)) (List.pairwise_map.2 ((h.srt.sublist List.filter_sublist).imp fun {a b} h => h)) fun x => ?_
  rw [List.mem_map, List.mem_map]
  constructor
  ·rintro ⟨z, hz, rfl⟩
   obtain ⟨g1, g2, g3⟩ := aliveR_mem.1 hz
   obtain ⟨e, he, h2⟩ := hmem z g1
   obtain ⟨d1, d2, d3⟩ := hdot h2
   refine ⟨e, aliveR_mem.2 ⟨he, by rw [← d2]; exact g2, fun hde => ?_⟩, d3.symm⟩
   apply g3
   show z.dot ∈ r.dead.filter _
   rw [d1, List.mem_filter]
   refine ⟨hde, ?_⟩
   have hv : hasM v e.dot = false := by
        cases hv : hasM v e.dot with
        | false => rfl
        | true =>
          exfalso
          unfold cpOf at h2
          rw [if_pos (by rw [decide_eq_true (show e.kind = 1 by rw [← d2]; exact g2), decide_eq_true hde, hv]; rfl)] at h2
          cases h2
   unfold clrd
   rw [hv]
   rfl
  ·rintro ⟨e, he, rfl⟩
   obtain ⟨g1, g2, g3⟩ := aliveR_mem.1 he
   have h2 : ∃ x, cpOf v r.dead e = some x := by
        unfold cpOf
        rw [if_neg (by rw [decide_eq_false g3, g2]; simp)]
        split
        ·exact ⟨_, rfl⟩
        ·exact ⟨_, rfl⟩
   obtain ⟨x, h2⟩ := h2
   obtain ⟨d1, d2, d3⟩ := hdot h2
   refine ⟨x, aliveR_mem.2 ⟨?_, by rw [d2]; exact g2, fun h9 => ?_⟩, d3⟩
   ·show x ∈ K'
    rw [hK', List.mem_filterMap]
    exact ⟨e, g1, h2⟩
   ·rw [d1] at h9
    exact g3 (List.mem_filter.1 h9).1
 ·cases hc : clrd v ⟨r.ctx, K', []⟩ d with
  | false => exact absurd (List.mem_filter.2 ⟨hd, by rw [hc]; rfl⟩) hn
  | true =>
    unfold clrd at hc
    simp only [Bool.and_eq_true] at hc
    exact hc.2.1
theorem CK.okErr {c r : RM} (h : CK c r) (hc : c.kept.length < 2048) (hr : r.kept.length < 2048) (e : Ev) : rmOk c e = rmOk r e ∧ rmErr c e = rmErr r e := by
 unfold rmOk rmErr
 rw [h.ctx, decide_eq_true hc, decide_eq_true hr, if_pos hc, if_pos hr]
 exact ⟨rfl, rfl⟩
theorem CK.ap {c r : RM} (h : CK c r) (hc : c.kept.length < 2048) (hr : r.kept.length < 2048) (e : Ev) : CK (rmAp c e) (rmAp r e) := by
 have hic := h.ic.ap e
 have hir := h.ir.ap e
 obtain ⟨hok, _⟩ := h.okErr hc hr e
 unfold rmAp at hic hir ⊢
 rw [hok] at hic ⊢
 by_cases ho : rmOk r e = true
 ·rw [if_pos ho] at hic hir
  rw [if_pos ho, if_pos ho]
  unfold rmOk at ho
  simp only [Bool.and_eq_true, Bool.not_eq_true', decide_eq_true_eq] at ho
  obtain ⟨h1, h2, h3, _⟩ := ho
  have hed : e.dot ∈ c.dead ↔ e.dot ∈ r.dead := ⟨h.sub _, fun h9 => Classical.byContradiction fun h8 => by
   have := h.gone _ h9 h8
   rw [h2] at this
   cases this⟩
  have key : ∀ (q : RM) (x : Ev), (∃ z, z ∈ aliveR ⟨rsetM q.ctx e.dot.a e.dot.seq, insE e q.kept, sortD (q.dead ++ e.over)⟩ ∧ bareEv z = x) ↔ ((e.kind = 1 ∧ e.dot ∉ q.dead ∧ e.dot ∉ e.over ∧ bareEv e = x) ∨ (x ∈ (aliveR q).map bareEv ∧ x.dot ∉ e.over)) := fun q x => by
   constructor
   ·rintro ⟨z, hz, rfl⟩
    obtain ⟨g1, g2, g3⟩ := aliveR_mem.1 hz
    have g4 : z.dot ∉ q.dead ∧ z.dot ∉ e.over := by
     refine ⟨fun h9 => g3 ?_, fun h9 => g3 ?_⟩
     ·exact sortD_mem.2 (List.mem_append_left _ h9)
     ·exact sortD_mem.2 (List.mem_append_right _ h9)
    rcases insE_mem.1 g1 with rfl | g1
    ·exact Or.inl ⟨g2, g4.1, g4.2, rfl⟩
    ·exact Or.inr ⟨List.mem_map_of_mem (aliveR_mem.2 ⟨g1, g2, g4.1⟩), g4.2⟩
   ·rintro (⟨g1, g2, g3, rfl⟩ | ⟨g1, g2⟩)
    ·refine ⟨e, aliveR_mem.2 ⟨insE_mem.2 (Or.inl rfl), g1, fun h9 => ?_⟩, rfl⟩
     rcases List.mem_append.1 (sortD_mem.1 h9) with h9 | h9
     ·exact g2 h9
     ·exact g3 h9
    ·obtain ⟨z, hz, rfl⟩ := List.mem_map.1 g1
     obtain ⟨k1, k2, k3⟩ := aliveR_mem.1 hz
     refine ⟨z, aliveR_mem.2 ⟨insE_mem.2 (Or.inr k1), k2, fun h9 => ?_⟩, rfl⟩
     rcases List.mem_append.1 (sortD_mem.1 h9) with h9 | h9
     ·exact k3 h9
     ·exact g2 h9
  refine ⟨hic, hir, by show rsetM c.ctx _ _ = rsetM r.ctx _ _; rw [h.ctx], ?_, fun d hd => ?_, fun d hd hn => ?_⟩
  ·refine srtE_ext (List.pairwise_map.2 ((hic.srt.sublist List.filter_sublist).imp fun {a b} h => h)) (List.pairwise_map.2 ((hir.srt.sublist List.filter_sublist).imp fun {a b} h => h)) fun x => ?_
   rw [List.mem_map, List.mem_map, key c x, key r x, h.alive, hed]
  ·have h9 := sortD_mem.1 (show d ∈ sortD (c.dead ++ e.over) from hd)
   refine sortD_mem.2 ?_
   rcases List.mem_append.1 h9 with h9 | h9
   ·exact List.mem_append_left _ (h.sub d h9)
   ·exact List.mem_append_right _ h9
  ·show hasM (rsetM r.ctx e.dot.a e.dot.seq) d = true
   have h9 := sortD_mem.1 (show d ∈ sortD (r.dead ++ e.over) from hd)
   have h8 : d ∉ c.dead ++ e.over := fun h8 => hn (sortD_mem.2 h8)
   rcases List.mem_append.1 h9 with h9 | h9
   ·have h7 := h.gone d h9 fun h7 => h8 (List.mem_append_left _ h7)
    rw [rsetM_srt h.ir.mrk, hasM_set (hasM_ok h7).1 h3, h7]
    rfl
   ·exact absurd (List.mem_append_right _ h9) h8
 ·rw [if_neg ho, if_neg ho]
  exact h
theorem SGood.fgN {s : MS} {n : Nat} (h : SGood s n) (d : Dot) : SGood (fgMS s d) n := by
 have h1 := h.fg d
 have h2 : (fgMS s d).ctx = s.ctx := by unfold fgMS; split <;> rfl
 have h3 : (fgMS s d).dead = s.dead := by unfold fgMS; split <;> rfl
 exact ⟨h1.inv, h1.nd, by rw [h2]; exact h.ctx, by rw [h3]; exact h.dead, h1.small⟩
theorem SGood.brN {s s' : MS} {n : Nat} {d : Dot} (h : SGood s n) (h1 : SGood s' (n + 1)) (hs : if brOk s d = true then ∃ y ∈ s.K, y.1.dot = d ∧ s' = { s with K := bareIt y :: lessK s.K d } else s' = s) : SGood s' n := by
 have h2 : s'.ctx = s.ctx ∧ s'.dead = s.dead := by
  split at hs
  ·obtain ⟨y, _, _, rfl⟩ := hs
   exact ⟨rfl, rfl⟩
  ·subst hs
   exact ⟨rfl, rfl⟩
 exact ⟨h1.inv, h1.nd, by rw [h2.1]; exact h.ctx, by rw [h2.2]; exact h.dead, h1.small⟩
theorem SGood.clN {s : MS} {n : Nat} (h : SGood s n) (d : Dot) : SGood (clMS s d) n := by
 have h1 := h.cl d
 have h2 : (clMS s d).ctx = s.ctx := by unfold clMS; split <;> rfl
 have h3 : (clMS s d).dead.length ≤ s.dead.length := by
  unfold clMS
  split
  ·exact List.length_filter_le _ _
  ·exact Nat.le_refl _
 exact ⟨h1.inv, h1.nd, by rw [h2]; exact h.ctx, Nat.le_trans h3 h.dead, h1.small⟩
theorem Rel.isDead {s : MS} {r : RM} (h : Rel s r) (e : Ev) : (decide (e.kind = 1) && decide (e.dot ∈ s.dead)) = isDead r e := by
 unfold Go.Proofs.YtpbobhfnglikmaaGreat.isDead
 rw [h.inDead]
theorem cpEvs_snoc (v : List Dot) (l : List Ev) (k : Nat) (hk : k < l.length) (r : RM) : (l.take (k + 1)).foldl (cpEv v) r = cpEv v ((l.take k).foldl (cpEv v) r) l[k] := by
 rw [List.take_add_one, List.getElem?_eq_getElem hk, Option.toList_some, List.foldl_append]
 rfl
theorem cpCls_snoc (v : List Dot) (l : List Dot) (k : Nat) (hk : k < l.length) (r : RM) : (l.take (k + 1)).foldl (cpCl v) r = cpCl v ((l.take k).foldl (cpCl v) r) l[k] := by
 rw [List.take_add_one, List.getElem?_eq_getElem hk, Option.toList_some, List.foldl_append]
 rfl
theorem setl_drop (v l : List Dot) (j : Nat) (h : j < l.length) : ((l.drop j).all fun d => hasM v d) = (hasM v l[j] && (l.drop (j + 1)).all fun d => hasM v d) := by
 rw [List.drop_eq_getElem_cons h]
 rfl
abbrev MS.rm (s : MS) : RM := ⟨s.ctx, eventsOf s, sortD s.dead⟩
theorem SGood.rinv {s : MS} {n : Nat} (h : SGood s n) : RMInv ⟨s.ctx, eventsOf s, sortD s.dead⟩ := h.rel.rinv h.inv
/-- the alive Puts of a map are the reference's -/
theorem aliveR_eq {s : MS} (hi : MInv s) {r : RM} (hr : Rel s r) : aliveR r = aliveOf s := by
 obtain ⟨y, hy⟩ : ∃ y : RMIt, y.rm = r := ⟨⟨none, r.ctx, 0, none, r.kept.map fun e => (e, none, 0), 0, none, r.dead, 0⟩, by
  unfold RMIt.rm
  simp only
  have : evsOf (r.kept.map fun e => (e, (none : Option Addr), 0)) = r.kept := by
   unfold evsOf
   rw [List.map_map]
   exact (List.map_congr_left fun x _ => rfl).trans (List.map_id _)
  rw [this]⟩
 rw [← hy] at hr
 rw [← alive_eq hi hr, ← hy]
 exact (evsOf_filter (fun e : Ev => decide (e.kind = 1) && !decide (e.dot ∈ y.dead)) y.K).symm
/-! ### marks that a context covers -/
/-! ### waste -/
end Go.Proofs.YtpbobhfnglikmaaGreat
