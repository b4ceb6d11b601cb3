/- Vectors: Get, Has. Conditions: as in the text. -/
import Derived.Test.YtohcmljigcdmbaaGreatKeys
import Derived.Test.YtohcmljigcdmbaaGreatCel
import Derived.Test.YtohcmljigcdmbaaGreatMark
import Derived.Test.YtohcmljigcdmbaaGreatLast
import Derived.WalkSpells
set_option linter.unusedSimpArgs false
set_option linter.unusedVariables false
set_option linter.unnecessarySimpa false
set_option maxHeartbeats 16000000
set_option maxRecDepth 100000
namespace Go.Proofs.YtohcmljigcdmbaaGreat
open Go.RowKit
/-- marks: an actor's number -/
def getM (l : List Dot) (a : Actor) : Int := match l.find? fun d => decide (d.a = a) with | some d => d.seq | none => 0
def hasM (l : List Dot) (d : Dot) : Bool := dotOk d && decide (d.seq ≤ getM l d.a)
/-- marks as entries -/
def ents (l : List Dot) : List (Actor × Int) := l.map fun d => (d.a, d.seq)
abbrev intVal (n : Int) : Value := .int .i64 n
/-- block v holds a vector whose map lies in block b: marks l -/
structure VecIn (w : World) (v b : Nat) (l : List Dot) : Prop where
 cell : w.heap[v]? = some (.cells #[.map (some b)] 115 (0, 0))
 tab : Tab Tryz.prog 23 actVal ActW intVal w b (ents l)
theorem VecIn.block {w w' : World} {v b : Nat} {l : List Dot} (h : VecIn w v b l) (h1 : w'.heap[v]? = w.heap[v]?) (h2 : w'.heap[b]? = w.heap[b]?) : VecIn w' v b l := ⟨h1.trans h.cell, h.tab.block h2⟩
theorem VecIn.kept {w w' : World} {v b : Nat} {l : List Dot} (h : VecIn w v b l) (hb : Below w.heap.size w w') : VecIn w' v b l := h.block (hb.block v (lt_of_block h.cell)) (hb.block b h.tab.lt)
theorem VecIn.fr {S : Nat → Prop} {w w' : World} {v b : Nat} {l : List Dot} (h : VecIn w v b l) (hf : Fr S w w') (h1 : ¬ S v) (h2 : ¬ S b) : VecIn w' v b l := h.block (hf.block v (lt_of_block h.cell) h1) (hf.block b h.tab.lt h2)
theorem one_cell {w : World} {R : Nat} {x : Value} {t : TypeId} (h : w.heap[R]? = some (.cells #[x] t (0, 0))) : w.cell? ⟨R, 0, none⟩ = some x ∧ w.frozen? ⟨R, 0, none⟩ = false := by
 simp [World.cell?, World.frozen?, h]
theorem getM_some {l : List Dot} {a : Actor} {d : Dot} (h : l.find? (fun d => decide (d.a = a)) = some d) : getM l a = d.seq ∧ d ∈ l ∧ d.a = a := by
 refine ⟨by unfold getM; rw [h], List.mem_of_find?_eq_some h, ?_⟩
 simpa using List.find?_some h
theorem getM_none {l : List Dot} {a : Actor} (h : l.find? (fun d => decide (d.a = a)) = none) : getM l a = 0 ∧ ∀ d ∈ l, d.a ≠ a := by
 refine ⟨by unfold getM; rw [h], fun d hd => ?_⟩
 simpa using List.find?_eq_none.1 h d hd
/-! ### Get -/
/-! ### Has -/
/-- marks, an actor's number set -/
def setM : List Dot → Actor → Int → List Dot
 | [], a, n => [⟨a, n⟩]
 | d :: l, a, n => if d.a = a then ⟨a, n⟩ :: l else if actorLt d.a a = true then d :: setM l a n else ⟨a, n⟩ :: d :: l
def SrtM (l : List Dot) : Prop := l.Pairwise fun x y => actorLt x.a y.a = true
theorem actorLt_irrefl (a : Actor) : actorLt a a = false := by unfold actorLt; simp
theorem actorLt_trans {a b c : Actor} (h : actorLt a b = true) (k : actorLt b c = true) : actorLt a c = true := by
 unfold actorLt at *
 simp only [Bool.or_eq_true, Bool.and_eq_true, decide_eq_true_eq] at *
 omega
theorem actorLt_total {a b : Actor} (h : a ≠ b) (k : actorLt a b = false) : actorLt b a = true := by
 unfold actorLt at *
 simp only [Bool.or_eq_true, Bool.or_eq_false_iff, Bool.and_eq_true, Bool.and_eq_false_iff, decide_eq_true_eq, decide_eq_false_iff_not] at *
 have : ¬ (a.dev = b.dev ∧ a.inc = b.inc) := fun e => h (by cases a; cases b; simp_all)
 omega
theorem setM_new : ∀ {l : List Dot} {a : Actor} {n : Int}, (∀ d ∈ l, d.a ≠ a) → (setM l a n).Perm (⟨a, n⟩ :: l)
 | [], a, n, _ => List.Perm.refl _
 | d :: l, a, n, h => by
   unfold setM
   rw [if_neg (h d List.mem_cons_self)]
   split
   ·exact ((setM_new (fun e he => h e (List.mem_cons_of_mem _ he))).cons d).trans (List.Perm.swap ..)
   ·exact List.Perm.refl _
theorem setM_old : ∀ {l : List Dot} {a : Actor} {n : Int} {d : Dot}, SrtM l → d ∈ l → d.a = a → ∃ r, l.Perm (d :: r) ∧ (setM l a n).Perm (⟨a, n⟩ :: r)
 | [], a, n, d, _, h, _ => by simp at h
 | x :: l, a, n, d, hs, h, hd => by
   obtain ⟨h1, h2⟩ := List.pairwise_cons.1 hs
   unfold setM
   by_cases hx : x.a = a
   ·rw [if_pos hx]
    rcases List.mem_cons.1 h with rfl | h
    ·exact ⟨l, List.Perm.refl _, List.Perm.refl _⟩
    ·have := h1 d h
     rw [hx, hd, actorLt_irrefl] at this
     cases this
   ·rw [if_neg hx]
    rcases List.mem_cons.1 h with rfl | h
    ·exact absurd hd hx
    ·have := h1 d h
     rw [hd] at this
     rw [if_pos this]
     obtain ⟨r, p1, p2⟩ := setM_old (n := n) h2 h hd
     exact ⟨x :: r, (p1.cons x).trans (List.Perm.swap ..), (p2.cons x).trans (List.Perm.swap ..)⟩
theorem getM_set : ∀ (l : List Dot) (a : Actor) (n : Int) (b : Actor), getM (setM l a n) b = if b = a then n else getM l b
 | [], a, n, b => by
   unfold setM getM
   simp only [List.find?_cons, List.find?_nil]
   by_cases h : a = b
   ·subst h; simp
   ·rw [decide_eq_false h, if_neg (fun e => h e.symm)]
 | d :: l, a, n, b => by
   have ih := getM_set l a n b
   unfold setM
   split
   ·rename_i hd
    unfold getM at ih ⊢
    simp only [List.find?_cons]
    by_cases h : a = b
    ·subst h; simp
    ·rw [decide_eq_false h, if_neg (fun e => h e.symm), decide_eq_false (fun e => h (by rw [← hd]; exact e))]
   ·rename_i hd
    split
    ·unfold getM at ih ⊢
     simp only [List.find?_cons]
     by_cases h : d.a = b
     ·rw [decide_eq_true h, if_neg (fun e => hd (by rw [h, e]))]
     ·rw [decide_eq_false h]
      exact ih
    ·unfold getM
     simp only [List.find?_cons]
     by_cases h : a = b
     ·subst h; simp
     ·rw [decide_eq_false h, if_neg (fun e => h e.symm)]
theorem setM_mem {l : List Dot} {a : Actor} {n : Int} : ∀ {d : Dot}, d ∈ setM l a n → d = ⟨a, n⟩ ∨ d ∈ l := by
 induction l with
 | nil => intro d h; simp [setM] at h; exact Or.inl h
 | cons x l ih =>
   intro d h
   unfold setM at h
   split at h
   ·rcases List.mem_cons.1 h with h | h
    ·exact Or.inl h
    ·exact Or.inr (List.mem_cons_of_mem _ h)
   ·split at h
    ·rcases List.mem_cons.1 h with h | h
     ·exact Or.inr (by rw [h]; exact List.mem_cons_self)
     ·exact (ih h).imp id (List.mem_cons_of_mem _)
    ·rcases List.mem_cons.1 h with h | h
     ·exact Or.inl h
     ·exact Or.inr h
theorem setM_srt : ∀ {l : List Dot} {a : Actor} {n : Int}, SrtM l → SrtM (setM l a n)
 | [], a, n, _ => by simp [setM, SrtM]
 | d :: l, a, n, h => by
   obtain ⟨h1, h2⟩ := List.pairwise_cons.1 h
   unfold setM
   split
   ·rename_i hd
    exact List.pairwise_cons.2 ⟨fun y hy => by rw [← hd]; exact h1 y hy, h2⟩
   ·rename_i hd
    split
    ·rename_i hlt
     refine List.pairwise_cons.2 ⟨fun y hy => ?_, setM_srt h2⟩
     rcases setM_mem hy with rfl | hy
     ·exact hlt
     ·exact h1 y hy
    ·rename_i hlt
     have hda : actorLt a d.a = true := actorLt_total hd (Bool.eq_false_iff.2 hlt)
     refine List.pairwise_cons.2 ⟨fun y hy => ?_, h⟩
     rcases List.mem_cons.1 hy with rfl | hy
     ·exact hda
     ·exact actorLt_trans hda (h1 y hy)
theorem setM_length (l : List Dot) (a : Actor) (n : Int) : (setM l a n).length ≤ l.length + 1 := by
 induction l with
 | nil => simp [setM]
 | cons d l ih =>
   unfold setM
   split
   ·simp
   ·split
    ·simp only [List.length_cons]; omega
    ·simp
theorem ents_perm {l m : List Dot} (h : l.Perm m) : (ents l).Perm (ents m) := h.map _
theorem Tab.setM {w : World} {b : Nat} {l : List Dot} (h : Tab Tryz.prog 23 actVal ActW intVal w b (ents l)) (hs : SrtM l) (hl : l.length + 1 < maxLen) {a : Actor} (ha : ActW a) (n : Int) :
 ∃ w', (Instr.mapUpdate 113 (.map (some b)) (actVal a) (.int .i64 n)).run Tryz.prog w = .ok () w' ∧ Tab Tryz.prog 23 actVal ActW intVal w' b (ents (Go.Proofs.YtohcmljigcdmbaaGreat.setM l a n)) ∧ Fr (isR b) w w' := by
 cases hf : l.find? fun d => decide (d.a = a) with
 | none =>
   obtain ⟨_, h2⟩ := getM_none hf
   obtain ⟨w', h3, h4, h5⟩ := h.store_new kActor Tryz.underlying113 (by unfold ents; rw [List.length_map]; omega) ha (fun p hp => by obtain ⟨d, hd, rfl⟩ := List.mem_map.1 hp; exact h2 d hd) n
   exact ⟨w', h3, h4.perm (ents_perm (setM_new h2)).symm, h5⟩
 | some d =>
   obtain ⟨_, h2, h3⟩ := getM_some hf
   obtain ⟨r, p1, p2⟩ := setM_old (n := n) hs h2 h3
   have hp := h.perm (ents_perm p1)
   have hlr := p1.length_eq
   simp only [List.length_cons] at hlr
   obtain ⟨w', h4, h5, h6⟩ := Tab.store_old (m := ents r) kActor (show Tab Tryz.prog 23 actVal ActW intVal w b ((d.a, d.seq) :: ents r) from hp) Tryz.underlying113 (by unfold ents; rw [List.length_map]; omega) n
   rw [h3] at h4 h5
   exact ⟨w', h4, h5.perm (ents_perm p2).symm, h6⟩
/-! ### New -/
theorem vNew_any (w : World) : Calls Tryz.prog 68 #[] w fun e w' => e = .returned (.pointer (some ⟨w.heap.size + 1, 0, none⟩)) ∧ VecIn w' (w.heap.size + 1) w.heap.size [] ∧ Below w.heap.size w w' := by
 have hmm := @run_makeMap Tryz.prog
 go_enter Tryz.func68, Tryz.ntmps68
 go_wp2
 go_ret
 refine ⟨by simp, ⟨?_, ?_⟩, by go_grown⟩
 ·have := heap_last0 (w.alloc (.map #[] 0)) (.cells #[.map (some w.heap.size)] 115)
  simpa using this
 ·exact (Tab.made w).kept ((Below.refl _ _).alloc (Nat.le_refl _) _)
theorem VecIn.ne {w : World} {v b : Nat} {l : List Dot} (h : VecIn w v b l) : v ≠ b := by
 obtain ⟨es, cl, h1⟩ := h.tab.mapped
 intro e
 have := h.cell
 rw [e, h1] at this
 cases this
/-! ### Take -/
end Go.Proofs.YtohcmljigcdmbaaGreat
