/- Deltas: both, Needs, Behind. Conditions: as in the text. -/
import Derived.Test.YtdlmbflhbecggaaGreatVecD
import Derived.OwnWalk
import Derived.Test.YtdlmbflhbecggaaGreatOrmH
set_option linter.unusedSimpArgs false
set_option linter.unusedVariables false
set_option linter.unnecessarySimpa false
set_option maxHeartbeats 16000000
set_option maxRecDepth 100000
namespace Go.Proofs.YtdlmbflhbecggaaGreat
open Go.RowKit
theorem MInv.marks {s : MS} (h : MInv s) (hl : s.ctx.length ≤ 4096) : bf s.ctx = 0 := by
 have key : ∀ (l : List Dot) (p : Option Dot), nY l → (∀ d ∈ l, bu d = true) → (∀ y, p = some y → ∀ d ∈ l, bG y.a d.a = true) → dY p l = 0 := by
  intro l
  induction l with
  | nil => intro p _ _ _; rfl
  | cons x r ih =>
    intro p h1 h2 h3
    obtain ⟨h4, h5⟩ := List.pairwise_cons.1 h1
    unfold dY
    rw [if_pos (h2 x List.mem_cons_self), if_pos]
    ·exact ih _ h5 (fun d hd => h2 d (List.mem_cons_of_mem _ hd)) (fun y hy d hd => by cases hy; exact h4 d hd)
    ·cases p with
     | none => rfl
     | some y => exact h3 y rfl x List.mem_cons_self
 unfold bf
 rw [if_neg (by omega)]
 exact key _ _ h.ctx h.ctxOk (fun y hy => (nomatch hy))
/-! ### a nil map -/
theorem MInv.overs {s : MS} (h : MInv s) : ∀ x ∈ s.K, x.1.over.length ≤ 64 := fun x hx => (dN (h.kept x hx).1).2.2.1
theorem MInv.dots {s : MS} (h : MInv s) : ∀ x ∈ s.K, DotW x.1.dot := fun x hx => gW (dN (h.kept x hx).1).1
/-- what the closure holds: the map's address, how many, the first error -/
structure MgBox (w : World) (m X Y Z : Nat) (n f : Int) : Prop where
 x : w.heap[X]? = some (.cells #[.pointer (some ⟨m, 0, none⟩)] 24 (0, 0))
 y : w.heap[Y]? = some (.cells #[.int .i64 n] 3 (0, 0))
 z : w.heap[Z]? = some (.cells #[.int .i64 f] 25 (0, 0))
 ne : X ≠ Y ∧ X ≠ Z ∧ Y ≠ Z
theorem MgBox.blocks {w w' : World} {m X Y Z : Nat} {n f : Int} (h : MgBox w m X Y Z n f) (hx : w'.heap[X]? = w.heap[X]?) (hy : w'.heap[Y]? = w.heap[Y]?) (hz : w'.heap[Z]? = w.heap[Z]?) : MgBox w' m X Y Z n f := ⟨hx.trans h.x, hy.trans h.y, hz.trans h.z, h.ne⟩
theorem MgBox.keeps {w w' : World} {m X Y Z : Nat} {n f : Int} (h : MgBox w m X Y Z n f) (hk : KeepsC w w') : MgBox w' m X Y Z n f := ⟨hk _ _ _ _ h.x, hk _ _ _ _ h.y, hk _ _ _ _ h.z, h.ne⟩
/-- events merged one after the other: the map behind them, how many were applied, the first error -/
inductive Merged (s : MS) : List Ev → MS → Nat → Int → Prop
 | nil : Merged s [] s 0 0
 | snoc {l : List Ev} {s1 s2 : MS} {n : Nat} {f : Int} {e : Ev} : Merged s l s1 n f → (if jJ s1 e = true then Applied s1 e s2 else s2 = s1) → Merged s (l ++ [e]) s2 (if jJ s1 e = true then n + 1 else n) (if f = 0 then kR s1 e else f)
theorem Merged.facts {s : MS} {l : List Ev} {s' : MS} {n : Nat} {f : Int} (h : Merged s l s' n f) (hi : MInv s) : MInv s' ∧ s'.ctx.length ≤ s.ctx.length + l.length ∧ s'.dead.length ≤ s.dead.length + 64 * l.length ∧ n ≤ l.length := by
 induction h with
 | nil => exact ⟨hi, by simp, by simp, Nat.le_refl _⟩
 | snoc _ hap ih =>
   obtain ⟨i1, i2, i3, i4⟩ := ih
   obtain ⟨g1, g2⟩ := RetAp.sizes hap
   refine ⟨RetAp.inv (m := 0) (b := ⟨0, 0, 0, 0, 0⟩) i1 hap, ?_, ?_, ?_⟩
   ·simp only [List.length_append, List.length_cons, List.length_nil]; omega
   ·simp only [List.length_append, List.length_cons, List.length_nil]; omega
   ·simp only [List.length_append, List.length_cons, List.length_nil]; split <;> omega
theorem Merged.none {s s' : MS} {l : List Ev} {n : Nat} {f : Int} (h : Merged s l s' n f) (hl : l = []) : s' = s ∧ n = 0 ∧ f = 0 := by
 cases h with
 | nil => exact ⟨rfl, rfl, rfl⟩
 | snoc _ _ => simp at hl
theorem Merged.one {s s' : MS} {l : List Ev} {e : Ev} {n : Nat} {f : Int} (h : Merged s l s' n f) (hl : l = [e]) : (if jJ s e = true then Applied s e s' else s' = s) ∧ n = (if jJ s e = true then 1 else 0) ∧ f = kR s e := by
 cases h with
 | nil => simp at hl
 | snoc h2 hap =>
   rename_i l2 s1 n2 f2 e2
   have h3 : l2 = [] ∧ e2 = e := by
    have h4 := congrArg List.length hl
    simp at h4
    subst h4
    simpa using hl
   obtain ⟨rfl, rfl⟩ := h3
   obtain ⟨rfl, rfl, rfl⟩ := h2.none rfl
   exact ⟨hap, by simp, by simp⟩
end Go.Proofs.YtdlmbflhbecggaaGreat
