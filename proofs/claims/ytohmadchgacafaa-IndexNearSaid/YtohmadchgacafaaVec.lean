/- Vectors: Get, Has. Conditions: as in the text. -/
import Derived.Test.YtohmadchgacafaaKeys
import Derived.Test.YtohmadchgacafaaCel
import Derived.Test.YtohmadchgacafaaMark
import Derived.Test.YtohmadchgacafaaLast
import Derived.WalkSpells
set_option linter.unusedSimpArgs false
set_option linter.unusedVariables false
set_option linter.unnecessarySimpa false
namespace Go.Proofs.Ytohmadchgacafaa
open Go.RowKit

theorem exec_look {P : Program} {o : Oper} {a : Act} {w : World} (t : TypeId) (m x : Operand) (c : Bool) (ho : o.op = .lookup t m x c) (v : Value) (h : (Instr.lookup t (a.eval m) (a.eval x) c).run P w = .ok v w) : (execOp a.eval o).run P w = .ok (.value v) w := by
  unfold execOp
  simp only [ho]
  simp [Sem.run_bind, h, Result.andThen]

/-- marks: an actor's number -/
def getM (l : List Dot) (a : Actor) : Int := match l.find? fun d => decide (d.a = a) with | some d => d.seq | none => 0
def hasM (l : List Dot) (d : Dot) : Bool := dotOk d && decide (d.seq ≤ getM l d.a)
/-- marks as entries -/
def ents (l : List Dot) : List (Actor × Int) := l.map fun d => (d.a, d.seq)
abbrev intVal (n : Int) : Value := .int .i64 n
theorem one_cell {w : World} {R : Nat} {x : Value} {t : TypeId} (h : w.heap[R]? = some (.cells #[x] t (0, 0))) : w.cell? ⟨R, 0, none⟩ = some x ∧ w.frozen? ⟨R, 0, none⟩ = false := by
  simp [World.cell?, World.frozen?, h]
theorem getM_some {l : List Dot} {a : Actor} {d : Dot} (h : l.find? (fun d => decide (d.a = a)) = some d) : getM l a = d.seq ∧ d ∈ l ∧ d.a = a := by
  refine ⟨by unfold getM; rw [h], List.mem_of_find?_eq_some h, ?_⟩
  simpa using List.find?_some h
theorem getM_none {l : List Dot} {a : Actor} (h : l.find? (fun d => decide (d.a = a)) = none) : getM l a = 0 ∧ ∀ d ∈ l, d.a ≠ a := by
  refine ⟨by unfold getM; rw [h], fun d hd => ?_⟩
  simpa using List.find?_eq_none.1 h d hd
/-! ### Get -/
/-! ### Has -/
end Go.Proofs.Ytohmadchgacafaa

/- Vectors: New, Raise, Take. Conditions: as in the text. -/
namespace Go.Proofs.Ytohmadchgacafaa
open Go.RowKit

/-- marks, an actor's number set -/
def setM : List Dot → Actor → Int → List Dot
  | [], a, n => [⟨a, n⟩]
  | d :: l, a, n => if d.a = a then ⟨a, n⟩ :: l else if actorLt d.a a = true then d :: setM l a n else ⟨a, n⟩ :: d :: l
def SrtM (l : List Dot) : Prop := l.Pairwise fun x y => actorLt x.a y.a = true
theorem actorLt_irrefl (a : Actor) : actorLt a a = false := by unfold actorLt; simp
theorem actorLt_trans {a b c : Actor} (h : actorLt a b = true) (k : actorLt b c = true) : actorLt a c = true := by
  unfold actorLt at *
  simp only [Bool.or_eq_true, Bool.and_eq_true, decide_eq_true_eq] at *
  omega
theorem actorLt_total {a b : Actor} (h : a ≠ b) (k : actorLt a b = false) : actorLt b a = true := by
  unfold actorLt at *
  simp only [Bool.or_eq_true, Bool.or_eq_false_iff, Bool.and_eq_true, Bool.and_eq_false_iff, decide_eq_true_eq, decide_eq_false_iff_not] at *
  have : ¬ (a.dev = b.dev ∧ a.inc = b.inc) := fun e => h (by cases a; cases b; simp_all)
  omega
theorem setM_new : ∀ {l : List Dot} {a : Actor} {n : Int}, (∀ d ∈ l, d.a ≠ a) → (setM l a n).Perm (⟨a, n⟩ :: l)
  | [], a, n, _ => List.Perm.refl _
  | d :: l, a, n, h => by
    unfold setM
    rw [if_neg (h d List.mem_cons_self)]
    split
    · exact ((setM_new (fun e he => h e (List.mem_cons_of_mem _ he))).cons d).trans (List.Perm.swap ..)
    · exact List.Perm.refl _
theorem setM_old : ∀ {l : List Dot} {a : Actor} {n : Int} {d : Dot}, SrtM l → d ∈ l → d.a = a → ∃ r, l.Perm (d :: r) ∧ (setM l a n).Perm (⟨a, n⟩ :: r)
  | [], a, n, d, _, h, _ => by simp at h
  | x :: l, a, n, d, hs, h, hd => by
    obtain ⟨h1, h2⟩ := List.pairwise_cons.1 hs
    unfold setM
    by_cases hx : x.a = a
    · rw [if_pos hx]
      rcases List.mem_cons.1 h with rfl | h
      · exact ⟨l, List.Perm.refl _, List.Perm.refl _⟩
      · have := h1 d h
        rw [hx, hd, actorLt_irrefl] at this
        cases this
    · rw [if_neg hx]
      rcases List.mem_cons.1 h with rfl | h
      · exact absurd hd hx
      · have := h1 d h
        rw [hd] at this
        rw [if_pos this]
        obtain ⟨r, p1, p2⟩ := setM_old (n := n) h2 h hd
        exact ⟨x :: r, (p1.cons x).trans (List.Perm.swap ..), (p2.cons x).trans (List.Perm.swap ..)⟩
theorem getM_set : ∀ (l : List Dot) (a : Actor) (n : Int) (b : Actor), getM (setM l a n) b = if b = a then n else getM l b
  | [], a, n, b => by
    unfold setM getM
    simp only [List.find?_cons, List.find?_nil]
    by_cases h : a = b
    · subst h; simp
    · rw [decide_eq_false h, if_neg (fun e => h e.symm)]
  | d :: l, a, n, b => by
    have ih := getM_set l a n b
    unfold setM
    split
    · rename_i hd
      unfold getM at ih ⊢
      simp only [List.find?_cons]
      by_cases h : a = b
      · subst h; simp
      · rw [decide_eq_false h, if_neg (fun e => h e.symm), decide_eq_false (fun e => h (by rw [← hd]; exact e))]
    · rename_i hd
      split
      · unfold getM at ih ⊢
        simp only [List.find?_cons]
        by_cases h : d.a = b
        · rw [decide_eq_true h, if_neg (fun e => hd (by rw [h, e]))]
        · rw [decide_eq_false h]
          exact ih
      · unfold getM
        simp only [List.find?_cons]
        by_cases h : a = b
        · subst h; simp
        · rw [decide_eq_false h, if_neg (fun e => h e.symm)]
theorem setM_mem {l : List Dot} {a : Actor} {n : Int} : ∀ {d : Dot}, d ∈ setM l a n → d = ⟨a, n⟩ ∨ d ∈ l := by
  induction l with
  | nil => intro d h; simp [setM] at h; exact Or.inl h
  | cons x l ih =>
    intro d h
    unfold setM at h
    split at h
    · rcases List.mem_cons.1 h with h | h
      · exact Or.inl h
      · exact Or.inr (List.mem_cons_of_mem _ h)
    · split at h
      · rcases List.mem_cons.1 h with h | h
        · exact Or.inr (by rw [h]; exact List.mem_cons_self)
        · exact (ih h).imp id (List.mem_cons_of_mem _)
      · rcases List.mem_cons.1 h with h | h
        · exact Or.inl h
        · exact Or.inr h
theorem setM_srt : ∀ {l : List Dot} {a : Actor} {n : Int}, SrtM l → SrtM (setM l a n)
  | [], a, n, _ => by simp [setM, SrtM]
  | d :: l, a, n, h => by
    obtain ⟨h1, h2⟩ := List.pairwise_cons.1 h
    unfold setM
    split
    · rename_i hd
      exact List.pairwise_cons.2 ⟨fun y hy => by rw [← hd]; exact h1 y hy, h2⟩
    · rename_i hd
      split
      · rename_i hlt
        refine List.pairwise_cons.2 ⟨fun y hy => ?_, setM_srt h2⟩
        rcases setM_mem hy with rfl | hy
        · exact hlt
        · exact h1 y hy
      · rename_i hlt
        have hda : actorLt a d.a = true := actorLt_total hd (Bool.eq_false_iff.2 hlt)
        refine List.pairwise_cons.2 ⟨fun y hy => ?_, h⟩
        rcases List.mem_cons.1 hy with rfl | hy
        · exact hda
        · exact actorLt_trans hda (h1 y hy)
theorem setM_length (l : List Dot) (a : Actor) (n : Int) : (setM l a n).length ≤ l.length + 1 := by
  induction l with
  | nil => simp [setM]
  | cons d l ih =>
    unfold setM
    split
    · simp
    · split
      · simp only [List.length_cons]; omega
      · simp
theorem ents_perm {l m : List Dot} (h : l.Perm m) : (ents l).Perm (ents m) := h.map _
/-! ### New -/
end Go.Proofs.Ytohmadchgacafaa

/- Vectors: Raise, Take. Conditions: marks in order, fewer than 2^30. -/
namespace Go.Proofs.Ytohmadchgacafaa
open Go.RowKit

def raiseOk (l : List Dot) (a : Actor) (n : Int) : Bool := dotOk ⟨a, n⟩ && decide (getM l a < n)
theorem fr_of {S : Nat → Prop} {w w1 w2 : World} (h : Below w.heap.size w w1) (k : Fr S w1 w2) : Fr S w w2 := (Fr.of_below h).again k
/-! ### Take -/
def takeOk (l : List Dot) (d : Dot) : Bool := dotOk d && decide (getM l d.a + 1 = d.seq)
end Go.Proofs.Ytohmadchgacafaa
