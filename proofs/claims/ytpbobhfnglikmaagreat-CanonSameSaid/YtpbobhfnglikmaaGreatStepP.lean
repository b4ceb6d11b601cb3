/- The ormap laws' steps, plainly: what holds behind each. Conditions: none. -/
import Derived.Test.YtpbobhfnglikmaaGreatLdM
import Derived.Test.YtpbobhfnglikmaaGreatLawKeys
set_option linter.unusedSimpArgs false
set_option linter.unusedVariables false
set_option linter.unnecessarySimpa false
set_option maxHeartbeats 16000000
set_option maxRecDepth 100000
namespace Go.Proofs.YtpbobhfnglikmaaGreat
open Go.RowKit
/-- what holds of a map behind n steps -/
structure SGood (s : MS) (n : Nat) : Prop where
 inv : MInv s
 nd : (s.K.map (·.1.dot)).Nodup
 ctx : s.ctx.length ≤ n
 dead : s.dead.length ≤ 64 * n
 small : ∀ x ∈ s.K, EvSmall x.1
theorem SGood.empty : SGood MS.empty 0 := ⟨MInv.empty, List.nodup_nil, Nat.le_refl _, Nat.le_refl _, fun x hx => (nomatch hx)⟩
theorem SGood.mono {s : MS} {n m : Nat} (h : SGood s n) (hm : n ≤ m) : SGood s m := ⟨h.inv, h.nd, Nat.le_trans h.ctx hm, by have := h.dead; omega, h.small⟩
theorem SGood.ap {s s' : MS} {n : Nat} {e : Ev} (h : SGood s n) (hs : EvSmall e) (ha : if apOk s e = true then Applied s e s' else s' = s) : SGood s' (n + 1) := by
 have h1 := RetAp.inv (m := 0) (b := ⟨0, 0, 0, 0, 0⟩) h.inv ha
 obtain ⟨h2, h3⟩ := RetAp.sizes ha
 have h4 := h.ctx
 have h5 := h.dead
 split at ha
 ·rename_i hok
  obtain ⟨a, c, hk⟩ := ha.kept
  obtain ⟨_, q2, _, _⟩ := apOk_parts hok
  refine ⟨h1, ?_, by omega, by omega, fun x hx => ?_⟩
  ·refine (hk.map fun x : EvIt => x.1.dot).nodup_iff.2 ?_
   rw [List.map_cons, List.nodup_cons]
   refine ⟨fun hm => ?_, h.nd⟩
   obtain ⟨x, hx, e2⟩ := List.mem_map.1 hm
   have := (h.inv.kept x hx).2
   rw [e2, q2] at this
   cases this
  ·rcases List.mem_cons.1 (hk.mem_iff.1 hx) with rfl | hx
   ·exact hs
   ·exact h.small x hx
 ·subst ha
  exact h.mono (Nat.le_succ n)
theorem lessK_mem {K : List EvIt} {d : Dot} {x : EvIt} : x ∈ lessK K d ↔ x ∈ K ∧ x.1.dot ≠ d := by
 unfold lessK
 rw [List.mem_filter, decide_eq_true_eq]
theorem lessK_nd {K : List EvIt} (d : Dot) (h : (K.map (·.1.dot)).Nodup) : ((lessK K d).map (·.1.dot)).Nodup :=
 List.Pairwise.sublist (List.Sublist.map _ List.filter_sublist) h
theorem SGood.fg {s : MS} {n : Nat} (h : SGood s n) (d : Dot) : SGood (fgMS s d) (n + 1) := by
 unfold fgMS
 split
 ·rename_i hok
  refine ⟨⟨h.inv.ctx, h.inv.ctxOk, fun x hx => h.inv.kept x (lessK_mem.1 hx).1, fun k d' => ?_, h.inv.pnd, h.inv.dead, Nat.le_trans (List.length_filter_le _ _) h.inv.len⟩, lessK_nd d h.nd, Nat.le_succ_of_le h.ctx, by have := h.dead; show s.dead.length ≤ _; omega, fun x hx => h.small x (lessK_mem.1 hx).1⟩
  show (k, d') ∈ s.pairs ↔ ∃ x ∈ lessK s.K d, x.1.kind = 1 ∧ x.1.dot = d' ∧ x.1.key = k ∧ d' ∉ s.dead
  rw [h.inv.pairs]
  constructor
  ·rintro ⟨x, hx, y1, y2, y3, y4⟩
   refine ⟨x, lessK_mem.2 ⟨hx, fun e => ?_⟩, y1, y2, y3, y4⟩
   obtain ⟨z, hz, hz2⟩ := List.any_eq_true.1 hok
   simp only [Bool.and_eq_true, decide_eq_true_eq, Bool.or_eq_true, Bool.not_eq_true', decide_eq_false_iff_not] at hz2
   have hxz := same_kept h.nd hx hz (e.trans hz2.1.symm)
   rcases hz2.2 with h9 | h9
   ·exact h9 (by rw [← hxz]; exact y1)
   ·rw [← e, y2] at h9; exact y4 h9
  ·rintro ⟨x, hx, y⟩
   exact ⟨x, (lessK_mem.1 hx).1, y⟩
 ·exact h.mono (Nat.le_succ n)
theorem bare_ok {e : Ev} (h : evOk e = true) (hk : e.kind = 1) : evOk { e with over := [] } = true := by
 unfold evOk at h ⊢
 simp only [Bool.and_eq_true, decide_eq_true_eq] at h ⊢
 obtain ⟨h1, h2, h3, _, h5⟩ := h
 refine ⟨h1, h2, h3, rfl, ?_⟩
 unfold kindOk at h5 ⊢
 rw [if_neg (by rw [hk]; decide), if_pos hk] at h5
 show (if e.kind = 2 then _ else if e.kind = 1 then itemOk e.key e.ck else false) = true
 rw [if_neg (by rw [hk]; decide), if_pos hk]
 exact h5
theorem SGood.br {s : MS} {n : Nat} (h : SGood s n) {d : Dot} {y : EvIt} (hy : y ∈ s.K) (hyd : y.1.dot = d) (hok : brOk s d = true) : SGood { s with K := bareIt y :: lessK s.K d } (n + 1) := by
 have hk1 : y.1.kind = 1 := by
  obtain ⟨z, hz, hz2⟩ := List.any_eq_true.1 hok
  simp only [Bool.and_eq_true, decide_eq_true_eq] at hz2
  rw [same_kept h.nd hy hz (hyd.trans hz2.1.symm)]
  exact hz2.2.1
 have hdd : (bareIt y).1.dot = d := hyd
 have hperm : s.K.Perm (y :: lessK s.K y.1.dot) := keep_perm h.nd hy
 refine ⟨⟨h.inv.ctx, h.inv.ctxOk, fun x hx => ?_, fun k d' => ?_, h.inv.pnd, h.inv.dead, ?_⟩, ?_, Nat.le_succ_of_le h.ctx, by have := h.dead; show s.dead.length ≤ _; omega, fun x hx => ?_⟩
 ·rcases List.mem_cons.1 hx with rfl | hx
  ·exact ⟨bare_ok (h.inv.kept y hy).1 hk1, (h.inv.kept y hy).2⟩
  ·exact h.inv.kept x (lessK_mem.1 hx).1
 ·show (k, d') ∈ s.pairs ↔ ∃ x ∈ bareIt y :: lessK s.K d, x.1.kind = 1 ∧ x.1.dot = d' ∧ x.1.key = k ∧ d' ∉ s.dead
  rw [h.inv.pairs]
  constructor
  ·rintro ⟨x, hx, y1, y2, y3, y4⟩
   by_cases e : x.1.dot = d
   ·have hxy := same_kept h.nd hx hy (e.trans hyd.symm)
    refine ⟨bareIt y, List.mem_cons_self, hk1, ?_, ?_, y4⟩
    ·show y.1.dot = d'
     rw [← hxy]; exact y2
    ·show y.1.key = k
     rw [← hxy]; exact y3
   ·exact ⟨x, List.mem_cons_of_mem _ (lessK_mem.2 ⟨hx, e⟩), y1, y2, y3, y4⟩
  ·rintro ⟨x, hx, y1, y2, y3, y4⟩
   rcases List.mem_cons.1 hx with rfl | hx
   ·exact ⟨y, hy, y1, y2, y3, y4⟩
   ·exact ⟨x, (lessK_mem.1 hx).1, y1, y2, y3, y4⟩
 ·have h1 := hperm.length_eq
  rw [hyd] at h1
  show (bareIt y :: lessK s.K d).length ≤ 2048
  rw [List.length_cons] at h1 ⊢
  rw [← h1]
  exact h.inv.len
 ·show ((bareIt y :: lessK s.K d).map (·.1.dot)).Nodup
  rw [List.map_cons, List.nodup_cons]
  refine ⟨fun hm => ?_, lessK_nd d h.nd⟩
  obtain ⟨x, hx, e⟩ := List.mem_map.1 hm
  exact (lessK_mem.1 hx).2 (e.trans hdd)
 ·rcases List.mem_cons.1 hx with rfl | hx
  ·have h1 := h.small y hy
   exact ⟨h1.name, h1.domain, h1.path, h1.value, Nat.zero_le _⟩
  ·exact h.small x (lessK_mem.1 hx).1
theorem SGood.cl {s : MS} {n : Nat} (h : SGood s n) (d : Dot) : SGood (clMS s d) (n + 1) := by
 unfold clMS
 split
 ·rename_i hok
  unfold clOk at hok
  simp only [Bool.and_eq_true, decide_eq_true_eq, Bool.not_eq_true'] at hok
  have hno : ∀ x ∈ s.K, x.1.dot ≠ d := fun x hx e => by
   have h1 := inK_yes hx
   rw [e, hok.2.2] at h1
   cases h1
  refine ⟨⟨h.inv.ctx, h.inv.ctxOk, h.inv.kept, fun k d' => ?_, h.inv.pnd, fun x hx => h.inv.dead x (List.mem_filter.1 hx).1, h.inv.len⟩, h.nd, Nat.le_succ_of_le h.ctx, ?_, h.small⟩
  ·show (k, d') ∈ s.pairs ↔ ∃ x ∈ s.K, x.1.kind = 1 ∧ x.1.dot = d' ∧ x.1.key = k ∧ d' ∉ s.dead.filter fun x => decide (x ≠ d)
   rw [h.inv.pairs]
   constructor
   ·rintro ⟨x, hx, y1, y2, y3, y4⟩
    exact ⟨x, hx, y1, y2, y3, fun h9 => y4 (List.mem_filter.1 h9).1⟩
   ·rintro ⟨x, hx, y1, y2, y3, y4⟩
    refine ⟨x, hx, y1, y2, y3, fun h9 => y4 (List.mem_filter.2 ⟨h9, decide_eq_true fun e => ?_⟩)⟩
    exact hno x hx (y2.trans e)
  ·have h1 := List.length_filter_le (fun x => decide (x ≠ d)) s.dead
   have := h.dead
   show (s.dead.filter fun x => decide (x ≠ d)).length ≤ _
   omega
 ·exact h.mono (Nat.le_succ n)
/-! ### what a map tells is loaded -/
theorem Rel.uniq {s : MS} {r y : RM} (h : Rel s r) (k : Rel s y) : r = y := by
 obtain ⟨a, b, c⟩ := r
 obtain ⟨d, e, f⟩ := y
 have h1 : a = s.ctx := h.ctx
 have h2 : b = eventsOf s := h.kept
 have h3 : c = sortD s.dead := h.dead
 have k1 : d = s.ctx := k.ctx
 have k2 : e = eventsOf s := k.kept
 have k3 : f = sortD s.dead := k.dead
 subst h1 h2 h3 k1 k2 k3
 rfl
theorem SGood.rel {s : MS} {n : Nat} (h : SGood s n) : Rel s ⟨s.ctx, eventsOf s, sortD s.dead⟩ := ⟨h.nd, rfl, rfl, rfl⟩
theorem fgMS_A (s : MS) (d : Dot) : (fgMS s d).A = s.A := by unfold fgMS; split <;> rfl
theorem clMS_A (s : MS) (d : Dot) : (clMS s d).A = s.A := by unfold clMS; split <;> rfl
theorem mBareG {m : Nat} {b : MB} {s : MS} {n : Nat} (d : Dot) (hd : DotW d) (w : World) (h : MpIn w m b s) (hg : SGood s n) :
 Calls Tryz.prog 21 #[.pointer (some ⟨m, 0, none⟩), dotVal d] w fun x w' => ∃ s', x = .returned (.bool (brOk s d)) ∧ MpIn w' m b s' ∧ SGood s' (n + 1) ∧ s'.A = s.A ∧ (if brOk s d = true then ∃ y ∈ s.K, y.1.dot = d ∧ s' = { s with K := bareIt y :: lessK s.K d } else s' = s) ∧ Fr (isR b.kb) w w' := by
 refine (mBare_any d hd w h hg.inv.len).mono ?_
 rintro x w' (⟨h1, rfl, h2, h3⟩ | ⟨h1, rfl, y, hy, hyd, h2, h3⟩)
 ·exact ⟨s, by rw [h1], h2, hg.mono (Nat.le_succ n), rfl, by rw [h1]; rfl, h3⟩
 ·exact ⟨_, by rw [h1], h2, hg.br hy hyd h1, rfl, by rw [h1, if_pos rfl]; exact ⟨y, hy, hyd, rfl⟩, h3⟩
end Go.Proofs.YtpbobhfnglikmaaGreat
