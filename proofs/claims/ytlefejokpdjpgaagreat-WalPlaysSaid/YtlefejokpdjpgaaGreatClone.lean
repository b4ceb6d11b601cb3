/- A clone of an event, its dots in memory of their own. Conditions: at most 2^30 dots. -/
import Derived.Test.YtlefejokpdjpgaaGreatLoad
import Derived.Test.YtlefejokpdjpgaaGreatDiskC
import Derived.OneCell
import Derived.Test.YtlefejokpdjpgaaGreatKit
import Derived.Lib.AppendStr
import Derived.IntWalk
import Derived.Test.YtlefejokpdjpgaaGreatEvs
set_option linter.unusedSimpArgs false
set_option linter.unusedVariables false
set_option linter.unnecessarySimpa false
set_option maxHeartbeats 16000000
set_option maxRecDepth 100000
namespace Go.Proofs.YtlefejokpdjpgaaGreat
open Go.RowKit
def dotVals (l : List Dot) : List Value := l.flatMap fun d => [.int .i64 d.a.dev, .int .i64 d.a.inc, .int .i64 d.seq]
theorem dotVals_length : ∀ l : List Dot, (dotVals l).length = l.length * 3
 | [] => rfl
 | d :: l => by
   have := dotVals_length l
   simp only [dotVals, List.flatMap_cons, List.length_append, List.length_cons, List.length_nil] at this ⊢
   omega
theorem dotVals_get : ∀ (l : List Dot) (i : Nat) (h : i < l.length), (dotVals l)[i * 3]? = some (.int .i64 l[i].a.dev) ∧ (dotVals l)[i * 3 + 1]? = some (.int .i64 l[i].a.inc) ∧ (dotVals l)[i * 3 + 2]? = some (.int .i64 l[i].seq)
 | [], i, h => by simp at h
 | d :: l, 0, _ => by simp [dotVals]
 | d :: l, i + 1, h => by
   have ih := dotVals_get l i (by simpa using h)
   have e : dotVals (d :: l) = [.int .i64 d.a.dev, .int .i64 d.a.inc, .int .i64 d.seq] ++ dotVals l := rfl
   rw [e, List.getElem?_append_right (by simp; omega), List.getElem?_append_right (by simp; omega), List.getElem?_append_right (by simp; omega)]
   simp only [List.length_cons, List.length_nil, List.getElem_cons_succ]
   rw [show (i + 1) * 3 - (0 + 1 + 1 + 1) = i * 3 by omega, show (i + 1) * 3 + 1 - (0 + 1 + 1 + 1) = i * 3 + 1 by omega, show (i + 1) * 3 + 2 - (0 + 1 + 1 + 1) = i * 3 + 2 by omega]
   exact ih
theorem DotsAt.news {w : World} {A off : Nat} {l : List Dot} (h : DotsAt w A off l) : ∀ j u, (dotVals l)[j]? = some u → w.cell? ((⟨A, off, none⟩ : Addr).add j) = some u := by
 intro j u hj
 have hlt : j < l.length * 3 := by
  have := (List.getElem?_eq_some_iff.1 hj).1
  rwa [dotVals_length] at this
 obtain ⟨g0, g1, g2⟩ := dotVals_get l (j / 3) (by omega)
 rw [Addr.add_mid]
 have h3 : j = j / 3 * 3 ∨ j = j / 3 * 3 + 1 ∨ j = j / 3 * 3 + 2 := by omega
 rcases h3 with e | e | e
 ·rw [← e, hj] at g0
  have := h.dev (j / 3) (by omega)
  rw [← e] at this
  rw [this, g0]
 ·rw [← e, hj] at g1
  have := h.inc (j / 3) (by omega)
  rw [Nat.add_assoc, ← e] at this
  rw [this, g1]
 ·rw [← e, hj] at g2
  have := h.seq (j / 3) (by omega)
  rw [Nat.add_assoc, ← e] at this
  rw [this, g2]
theorem Tryz.infoDot : (Tryz.prog.info? 30).map (fun i => (i.zero, i.size, i.bytes)) = some (some (.agg #[.int .i64 0, .int .i64 0, .int .i64 0]), 3, 24) := by kernel_rfl
theorem own_dots {w : World} {base : Nat} {v : Value} {l : List Dot} (h : w.ownsRow base 30 3 v l.length (dotVals l)) : ∃ a cap, v = .slice a l.length cap ∧ DotsIn w a l := by
 rcases h.2 with ⟨rfl, h0⟩ | ⟨g, cap, cur, rfl, _, hg, hn, _, hsz, htk⟩
 ·exact ⟨none, 0, by rw [h0], Or.inl (List.length_eq_zero_iff.1 h0)⟩
 ·have hcell : ∀ j u, (dotVals l)[j]? = some u → w.cell? ⟨g, j, none⟩ = some u := by
   intro j u hj
   rw [← htk, List.getElem?_take] at hj
   split at hj
   ·simp only [World.cell?, hg]
    simpa using hj
   ·cases hj
  refine ⟨_, cap, rfl, Or.inr ⟨g, 0, rfl, ⟨fun i hi => ?_, fun i hi => ?_, fun i hi => ?_⟩⟩⟩
  ·have := hcell _ _ (dotVals_get l i hi).1; simpa using this
  ·have := hcell _ _ (dotVals_get l i hi).2.1; simpa using this
  ·have := hcell _ _ (dotVals_get l i hi).2.2; simpa using this
/-- slices of events of one's own -/
def evItCells (l : List EvIt) : List Value := l.flatMap itEv
theorem evItCells_snoc (l : List EvIt) (x : EvIt) : evItCells (l ++ [x]) = evItCells l ++ itEv x := by simp [evItCells]
/-- events that grow in a row of one's own, each one's dots in a row of dots -/
structure EvsGr (base : Nat) (v : Value) (ls : List EvIt) (W : World) : Prop where
 own : W.ownsRow base 39 19 v ls.length (evItCells ls)
 dots : ∀ x ∈ ls, DotsIn W x.2.1 x.1.over
 typ : ∀ x ∈ ls, x.1.over = [] ∨ ∃ A off cs f, x.2.1 = some ⟨A, off, none⟩ ∧ W.heap[A]? = some (.cells cs 30 f)
theorem EvsGr.nil (base : Nat) (W : World) : EvsGr base (.slice none 0 0) [] W := ⟨World.ownsRow_nil _ _ _ _, fun x hx => (nomatch hx), fun x hx => (nomatch hx)⟩
theorem EvsGr.kept {base : Nat} {v : Value} {ls : List EvIt} {w w' : World} (h : EvsGr base v ls w) (hb : Below w.heap.size w w') : EvsGr base v ls w' :=
 ⟨ownsRow_below h.own hb, fun x hx => (h.dots x hx).kept hb, fun x hx => (h.typ x hx).imp id fun ⟨A, off, cs, f, h1, h2⟩ => ⟨A, off, cs, f, h1, (hb.block A (lt_of_block h2)).trans h2⟩⟩
theorem EvsGr.app {base : Nat} {v v2 : Value} {ls : List EvIt} {x : EvIt} {w w2 : World} (h : EvsGr base v ls w) (hown : w2.ownsRow base 39 19 v2 (ls.length + 1) (evItCells ls ++ itEv x)) (hg : w.grownBy w2 v.ownBlock)
 (hd : DotsIn w x.2.1 x.1.over) (ht : x.1.over = [] ∨ ∃ A off cs f, x.2.1 = some ⟨A, off, none⟩ ∧ w.heap[A]? = some (.cells cs 30 f)) : EvsGr base v2 (ls ++ [x]) w2 := by
 have hne : ∀ (A : Nat) (cs : Array Value) (f : Nat × Nat), w.heap[A]? = some (Obj.cells cs 30 f) → w2.heap[A]? = w.heap[A]? := fun A cs f hA => hg.block A (lt_of_block hA) (fun e => by
  rcases h.own.2 with ⟨rfl, _⟩ | ⟨g, cap, cur, rfl, _, hgb, _⟩
  ·simp [Value.ownBlock] at e
  ·obtain rfl : A = g := by simpa [Value.ownBlock] using e
   rw [hA] at hgb
   simp only [Option.some.injEq, Obj.cells.injEq] at hgb
   exact absurd hgb.2.1 (by decide))
 have key : ∀ y : EvIt, DotsIn w y.2.1 y.1.over → (y.1.over = [] ∨ ∃ A off cs f, y.2.1 = some ⟨A, off, none⟩ ∧ w.heap[A]? = some (.cells cs 30 f)) → DotsIn w2 y.2.1 y.1.over ∧ (y.1.over = [] ∨ ∃ A off cs f, y.2.1 = some ⟨A, off, none⟩ ∧ w2.heap[A]? = some (.cells cs 30 f)) := by
  intro y h1 h2
  rcases h2 with h2 | ⟨A, off, cs, f, h3, h4⟩
  ·exact ⟨Or.inl h2, Or.inl h2⟩
  ·have hE := hne A cs f h4
   refine ⟨?_, Or.inr ⟨A, off, cs, f, h3, hE.trans h4⟩⟩
   rcases h1 with h1 | ⟨A', off', h5, h6⟩
   ·exact Or.inl h1
   ·rw [h3] at h5
    simp only [Option.some.injEq, Addr.mk.injEq, and_true] at h5
    obtain ⟨rfl, rfl⟩ := h5
    exact Or.inr ⟨A, off, h3, ⟨fun i hi => (World.cell?_of_block hE).trans (h6.dev i hi), fun i hi => (World.cell?_of_block hE).trans (h6.inc i hi), fun i hi => (World.cell?_of_block hE).trans (h6.seq i hi)⟩⟩
 have hall : ∀ y ∈ ls ++ [x], _ := fun y hy => key y (by
  rcases List.mem_append.1 hy with hy | hy
  ·exact h.dots y hy
  ·simp only [List.mem_singleton] at hy; subst hy; exact hd) (by
  rcases List.mem_append.1 hy with hy | hy
  ·exact h.typ y hy
  ·simp only [List.mem_singleton] at hy; subst hy; exact ht)
 exact ⟨by rw [evItCells_snoc, List.length_append]; exact hown, fun y hy => (hall y hy).1, fun y hy => (hall y hy).2⟩
end Go.Proofs.YtlefejokpdjpgaaGreat
