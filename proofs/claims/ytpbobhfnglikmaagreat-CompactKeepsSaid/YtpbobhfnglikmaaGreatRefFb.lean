/- The reference's map: find, Forget, Bare, Clear. Conditions: as in the text. -/
import Derived.Test.YtpbobhfnglikmaaGreatStepP
set_option linter.unusedSimpArgs false
set_option linter.unusedVariables false
set_option linter.unnecessarySimpa false
set_option maxHeartbeats 16000000
set_option maxRecDepth 100000
namespace Go.Proofs.YtpbobhfnglikmaaGreat
open Go.RowKit
/-! ### the answers, plainly -/
def rmFgOk (r : RM) (d : Dot) : Bool := r.kept.any fun e => decide (e.dot = d) && (!decide (e.kind = 1) || decide (d ∈ r.dead))
def rmFg (r : RM) (d : Dot) : RM := if rmFgOk r d = true then ⟨r.ctx, r.kept.filter (fun e => decide (e.dot ≠ d)), r.dead⟩ else r
def bareEv (e : Ev) : Ev := { e with over := [] }
def rmBrOk (r : RM) (d : Dot) : Bool := r.kept.any fun e => decide (e.dot = d) && (decide (e.kind = 1) && !decide (e.over.length = 0))
def rmBr (r : RM) (d : Dot) : RM := if rmBrOk r d = true then ⟨r.ctx, r.kept.map (fun e => if e.dot = d then bareEv e else e), r.dead⟩ else r
def rmClOk (r : RM) (d : Dot) : Bool := decide (d ∈ r.dead) && (hasM r.ctx d && !(r.kept.any fun e => decide (e.dot = d)))
def rmCl (r : RM) (d : Dot) : RM := if rmClOk r d = true then ⟨r.ctx, r.kept, r.dead.filter fun x => decide (x ≠ d)⟩ else r
/-! ### find -/
/-! ### Bare -/
theorem SrtE.filter {l : List Ev} (p : Ev → Bool) (h : SrtE l) : SrtE (l.filter p) := List.Pairwise.sublist List.filter_sublist h
theorem Rel.any_eq {s : MS} {r : RM} (h : Rel s r) (p q : Ev → Bool) (e : ∀ x, p x = q x) : (s.K.any fun x => p x.1) = r.kept.any q := by
 rw [h.kept, Bool.eq_iff_iff, List.any_eq_true, List.any_eq_true]
 constructor
 ·rintro ⟨x, hx, h2⟩
  exact ⟨x.1, (eventsOf_mem h.nd).2 ⟨x, hx, rfl⟩, by rw [← e]; exact h2⟩
 ·rintro ⟨x, hx, h2⟩
  obtain ⟨z, hz, rfl⟩ := (eventsOf_mem h.nd).1 hx
  exact ⟨z, hz, by rw [e]; exact h2⟩
theorem Rel.inDead {s : MS} {r : RM} (h : Rel s r) (d : Dot) : decide (d ∈ s.dead) = decide (d ∈ r.dead) := decide_eq_decide.2 (by rw [h.dead, sortD_mem])
theorem Rel.okFg {s : MS} {r : RM} (h : Rel s r) (d : Dot) : fgOk s d = rmFgOk r d :=
 h.any_eq (fun e => decide (e.dot = d) && (!decide (e.kind = 1) || decide (d ∈ s.dead))) _ fun x => by rw [h.inDead]
theorem Rel.okBr {s : MS} {r : RM} (h : Rel s r) (d : Dot) : brOk s d = rmBrOk r d :=
 h.any_eq (fun e => decide (e.dot = d) && (decide (e.kind = 1) && !decide (e.over.length = 0))) _ fun _ => rfl
theorem inK_any (K : List EvIt) (d : Dot) : inK K d = K.any fun x => decide (x.1.dot = d) := rfl
theorem Rel.okCl {s : MS} {r : RM} (h : Rel s r) (d : Dot) : clOk s d = rmClOk r d := by
 unfold clOk rmClOk
 rw [h.inDead, h.ctx, inK_any, h.any_eq (fun e => decide (e.dot = d)) (fun e => decide (e.dot = d)) fun _ => rfl]
theorem Rel.fg {s : MS} {r : RM} (h : Rel s r) (d : Dot) : Rel (fgMS s d) (rmFg r d) := by
 unfold fgMS rmFg
 rw [h.okFg]
 split
 ·refine ⟨lessK_nd d h.nd, h.ctx, ?_, h.dead⟩
  show r.kept.filter _ = _
  rw [h.kept]
  refine srtE_ext (SrtE.filter _ (eventsOf_srt h.nd)) (eventsOf_srt (s := { s with K := lessK s.K d }) (lessK_nd d h.nd)) fun x => ?_
  rw [List.mem_filter, eventsOf_mem h.nd, eventsOf_mem (s := { s with K := lessK s.K d }) (lessK_nd d h.nd), decide_eq_true_eq]
  constructor
  ·rintro ⟨⟨y, hy, rfl⟩, h2⟩
   exact ⟨y, lessK_mem.2 ⟨hy, h2⟩, rfl⟩
  ·rintro ⟨y, hy, rfl⟩
   exact ⟨⟨y, (lessK_mem.1 hy).1, rfl⟩, (lessK_mem.1 hy).2⟩
 ·exact h
theorem Rel.br {s s' : MS} {r : RM} (h : Rel s r) (d : Dot) (hn : (s'.K.map (·.1.dot)).Nodup) (hs : if brOk s d = true then ∃ y ∈ s.K, y.1.dot = d ∧ s' = { s with K := bareIt y :: lessK s.K d } else s' = s) : Rel s' (rmBr r d) := by
 unfold rmBr
 rw [h.okBr] at hs
 split
 ·rename_i hok
  rw [if_pos hok] at hs
  obtain ⟨y, hy, hyd, rfl⟩ := hs
  refine ⟨hn, h.ctx, ?_, h.dead⟩
  show r.kept.map _ = _
  rw [h.kept]
  refine srtE_ext ?_ (eventsOf_srt hn) fun x => ?_
  ·refine List.pairwise_map.2 ((eventsOf_srt h.nd).imp fun {a b} hab => ?_)
   have e : ∀ z : Ev, (if z.dot = d then bareEv z else z).dot = z.dot := fun z => by split <;> rfl
   rw [e, e]
   exact hab
  ·rw [List.mem_map, eventsOf_mem hn]
   constructor
   ·rintro ⟨z, hz, rfl⟩
    obtain ⟨q, hq, rfl⟩ := (eventsOf_mem h.nd).1 hz
    by_cases hqd : q.1.dot = d
    ·have := same_kept h.nd hq hy (hqd.trans hyd.symm)
     exact ⟨bareIt y, List.mem_cons_self, by rw [if_pos hqd, this]; rfl⟩
    ·exact ⟨q, List.mem_cons_of_mem _ (lessK_mem.2 ⟨hq, hqd⟩), by rw [if_neg hqd]⟩
   ·rintro ⟨q, hq, rfl⟩
    rcases List.mem_cons.1 hq with rfl | hq
    ·exact ⟨y.1, (eventsOf_mem h.nd).2 ⟨y, hy, rfl⟩, by rw [if_pos hyd]; rfl⟩
    ·exact ⟨q.1, (eventsOf_mem h.nd).2 ⟨q, (lessK_mem.1 hq).1, rfl⟩, by rw [if_neg (lessK_mem.1 hq).2]⟩
 ·rename_i hok
  rw [if_neg hok] at hs
  subst hs
  exact h
theorem Rel.cl {s : MS} {r : RM} (h : Rel s r) (d : Dot) : Rel (clMS s d) (rmCl r d) := by
 unfold clMS rmCl
 rw [h.okCl]
 split
 ·refine ⟨h.nd, h.ctx, h.kept, ?_⟩
  show r.dead.filter _ = _
  rw [h.dead]
  refine srtD_ext (List.Pairwise.sublist List.filter_sublist (sortD_srt _)) (sortD_srt _) fun x => ?_
  rw [List.mem_filter, sortD_mem, sortD_mem, List.mem_filter]
 ·exact h
/-- the reference's sizes, of the map's -/
theorem SGood.sizes {s : MS} {n : Nat} {r : RM} (h : SGood s n) (hr : Rel s r) : r.ctx.length ≤ n ∧ r.kept.length ≤ 2048 ∧ r.dead.length ≤ 64 * n := by
 refine ⟨by rw [hr.ctx]; exact h.ctx, by rw [hr.kept, eventsOf_len hr.nd]; exact h.inv.len, ?_⟩
 rw [hr.dead]
 exact Nat.le_trans (sortD_length _) h.dead
end Go.Proofs.YtpbobhfnglikmaaGreat
