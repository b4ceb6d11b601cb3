/- Slices of events of one's own. Conditions: none. -/
import Derived.Test.YtcijajjngmmbeaaEvs
import Derived.Test.YtcijajjngmmbeaaEvClone
set_option linter.unusedSimpArgs false
set_option linter.unusedVariables false
set_option linter.unnecessarySimpa false
namespace Go.Proofs.Ytcijajjngmmbeaa
open Go.RowKit

/-- slices of events of one's own -/
def evItCells (l : List EvIt) : List Value := l.flatMap itEv
theorem evCells_len (x : Ev) (a : Option Addr) (cap : Nat) : (evCells x a cap).length = 19 := rfl
theorem evItCells_snoc (l : List EvIt) (x : EvIt) : evItCells (l ++ [x]) = evItCells l ++ itEv x := by simp [evItCells]
theorem evCells_one (x : Ev) (a : Option Addr) (cap : Nat) : ∀ u ∈ evCells x a cap, u.oneCell' = true := by
  intro u hu
  simp only [evCells, List.mem_cons, List.not_mem_nil, or_false] at hu
  rcases hu with rfl | rfl | rfl | rfl | rfl | rfl | rfl | rfl | rfl | rfl | rfl | rfl | rfl | rfl | rfl | rfl | rfl | rfl | rfl <;> rfl
theorem evItCells_at : ∀ (l : List EvIt) (i j : Nat) (u : Value) (hi : i < l.length), (itEv l[i])[j]? = some u → (evItCells l)[i * 19 + j]? = some u
  | [], i, _, _, hi, _ => by simp at hi
  | x :: r, i, j, u, hi, h => by
    have e : evItCells (x :: r) = itEv x ++ evItCells r := by simp [evItCells]
    have hj : j < 19 := by
      have := (List.getElem?_eq_some_iff.1 h).1
      rwa [evCells_len] at this
    rw [e]
    cases i with
    | zero =>
      rw [List.getElem?_append_left (by rw [evCells_len]; omega)]
      simpa using h
    | succ i =>
      rw [List.getElem?_append_right (by rw [evCells_len]; omega), evCells_len, show (i + 1) * 19 + j - 19 = i * 19 + j by omega]
      exact evItCells_at r i j u (by simpa using hi) (by simpa using h)
theorem evsIn_own {w : World} {base : Nat} {t : TypeId} {v : Value} {ls : List EvIt} (h : w.ownsRow base t 19 v ls.length (evItCells ls)) (hd : ∀ x ∈ ls, DotsIn w x.2.1 x.1.over) : ∃ a cap, v = .slice a ls.length cap ∧ EvsIn w a ls := by
  rcases h.2 with ⟨rfl, hn⟩ | ⟨g, cap, cur, hv, rest⟩
  · have : ls = [] := List.length_eq_zero_iff.1 hn
    subst this
    exact ⟨none, 0, rfl, ⟨Or.inl rfl, hd⟩⟩
  · refine ⟨some ⟨g, 0, none⟩, cap, hv, ⟨Or.inr ⟨g, 0, rfl, fun i hi j u hu => ?_⟩, hd⟩⟩
    have := World.ownsRow.cells (g := g) h (by rw [hv]; rfl) (i * 19 + j) u (evItCells_at ls i j u hi hu)
    rw [Addr.add_mid, Nat.zero_add] at this
    rwa [Nat.zero_add]
theorem evs_new (w : World) (x : Ev) (a : Option Addr) (c : Nat) (t : TypeId) : ∀ j u, (evCells x a c)[j]? = some u → (w.alloc (Obj.cells (evCells x a c).toArray t)).cell? ((⟨w.heap.size, 0, none⟩ : Addr).add j) = some u := by
  intro j u hj
  rw [Addr.add_mid, Nat.zero_add, World.cell?_alloc_new]
  simpa using hj
theorem Try.infoEv : (Try.prog.info? 39).map (fun i => (i.zero, i.size, i.bytes)) = some (some (.agg (evCells ev0 none 0).toArray), 19, 176) := by kernel_rfl

/-- events that grow in a row of one's own, each one's dots in a row of dots -/
structure EvsGr (base : Nat) (v : Value) (ls : List EvIt) (W : World) : Prop where
  own : W.ownsRow base 39 19 v ls.length (evItCells ls)
  dots : ∀ x ∈ ls, DotsIn W x.2.1 x.1.over
  typ : ∀ x ∈ ls, x.1.over = [] ∨ ∃ A off cs f, x.2.1 = some ⟨A, off, none⟩ ∧ W.heap[A]? = some (.cells cs 27 f)
theorem EvsGr.nil (base : Nat) (W : World) : EvsGr base (.slice none 0 0) [] W := ⟨World.ownsRow_nil _ _ _ _, fun x hx => (nomatch hx), fun x hx => (nomatch hx)⟩
theorem EvsGr.kept {base : Nat} {v : Value} {ls : List EvIt} {w w' : World} (h : EvsGr base v ls w) (hb : Below w.heap.size w w') : EvsGr base v ls w' :=
  ⟨ownsRow_below h.own hb, fun x hx => (h.dots x hx).kept hb, fun x hx => (h.typ x hx).imp id fun ⟨A, off, cs, f, h1, h2⟩ => ⟨A, off, cs, f, h1, (hb.block A (lt_of_block h2)).trans h2⟩⟩
theorem EvsGr.app {base : Nat} {v v2 : Value} {ls : List EvIt} {x : EvIt} {w w2 : World} (h : EvsGr base v ls w) (hown : w2.ownsRow base 39 19 v2 (ls.length + 1) (evItCells ls ++ itEv x)) (hg : w.grownBy w2 v.ownBlock)
    (hd : DotsIn w x.2.1 x.1.over) (ht : x.1.over = [] ∨ ∃ A off cs f, x.2.1 = some ⟨A, off, none⟩ ∧ w.heap[A]? = some (.cells cs 27 f)) : EvsGr base v2 (ls ++ [x]) w2 := by
  have hne : ∀ (A : Nat) (cs : Array Value) (f : Nat × Nat), w.heap[A]? = some (Obj.cells cs 27 f) → w2.heap[A]? = w.heap[A]? := fun A cs f hA => hg.block A (lt_of_block hA) (fun e => by
    rcases h.own.2 with ⟨rfl, _⟩ | ⟨g, cap, cur, rfl, _, hgb, _⟩
    · simp [Value.ownBlock] at e
    · obtain rfl : A = g := by simpa [Value.ownBlock] using e
      rw [hA] at hgb
      simp only [Option.some.injEq, Obj.cells.injEq] at hgb
      exact absurd hgb.2.1 (by decide))
  have key : ∀ y : EvIt, DotsIn w y.2.1 y.1.over → (y.1.over = [] ∨ ∃ A off cs f, y.2.1 = some ⟨A, off, none⟩ ∧ w.heap[A]? = some (.cells cs 27 f)) → DotsIn w2 y.2.1 y.1.over ∧ (y.1.over = [] ∨ ∃ A off cs f, y.2.1 = some ⟨A, off, none⟩ ∧ w2.heap[A]? = some (.cells cs 27 f)) := by
    intro y h1 h2
    rcases h2 with h2 | ⟨A, off, cs, f, h3, h4⟩
    · exact ⟨Or.inl h2, Or.inl h2⟩
    · have hE := hne A cs f h4
      refine ⟨?_, Or.inr ⟨A, off, cs, f, h3, hE.trans h4⟩⟩
      rcases h1 with h1 | ⟨A', off', h5, h6⟩
      · exact Or.inl h1
      · rw [h3] at h5
        simp only [Option.some.injEq, Addr.mk.injEq, and_true] at h5
        obtain ⟨rfl, rfl⟩ := h5
        exact Or.inr ⟨A, off, h3, ⟨fun i hi => (World.cell?_of_block hE).trans (h6.dev i hi), fun i hi => (World.cell?_of_block hE).trans (h6.inc i hi), fun i hi => (World.cell?_of_block hE).trans (h6.seq i hi)⟩⟩
  have hall : ∀ y ∈ ls ++ [x], _ := fun y hy => key y (by
    rcases List.mem_append.1 hy with hy | hy
    · exact h.dots y hy
    · simp only [List.mem_singleton] at hy; subst hy; exact hd) (by
    rcases List.mem_append.1 hy with hy | hy
    · exact h.typ y hy
    · simp only [List.mem_singleton] at hy; subst hy; exact ht)
  exact ⟨by rw [evItCells_snoc, List.length_append]; exact hown, fun y hy => (hall y hy).1, fun y hy => (hall y hy).2⟩
theorem EvsGr.evs {base : Nat} {v : Value} {ls : List EvIt} {w : World} (h : EvsGr base v ls w) : ∃ a cap, v = .slice a ls.length cap ∧ EvsIn w a ls := evsIn_own h.own h.dots
/-- a row of dots of one's own: its block's type -/
theorem own_typ {w : World} {base c n : Nat} {a : Option Addr} {l : List Dot} (h : w.ownsRow base 27 3 (.slice a n c) n (dotVals l)) (hn : n = l.length) : DotsIn w a l ∧ (l = [] ∨ ∃ A off cs f, a = some ⟨A, off, none⟩ ∧ w.heap[A]? = some (.cells cs 27 f)) := by
  subst hn
  obtain ⟨a', c', he, hd⟩ := own_dots h
  simp only [Value.slice.injEq] at he
  refine ⟨by rw [he.1]; exact hd, ?_⟩
  rcases h.2 with ⟨_, h0⟩ | ⟨g, cap, cur, hv, _, hg, _⟩
  · exact Or.inl (List.length_eq_zero_iff.1 h0)
  · simp only [Value.slice.injEq] at hv
    exact Or.inr ⟨g, 0, cur, _, hv.1, hg⟩
end Go.Proofs.Ytcijajjngmmbeaa
