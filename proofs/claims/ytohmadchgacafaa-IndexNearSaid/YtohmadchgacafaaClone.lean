/- A clone of an event, its dots in memory of their own. Conditions: at most 2^30 dots. -/
import Derived.Test.YtohmadchgacafaaLoad
import Derived.Test.YtohmadchgacafaaPack
import Derived.OneCell
import Derived.Test.YtohmadchgacafaaKit
import Derived.Lib.AppendStr
import Derived.IntWalk
import Derived.Test.YtohmadchgacafaaMem
import Derived.Test.YtohmadchgacafaaEvs
set_option linter.unusedSimpArgs false
set_option linter.unusedVariables false
set_option linter.unnecessarySimpa false
namespace Go.Proofs.Ytohmadchgacafaa
open Go.RowKit

def dotVals (l : List Dot) : List Value := l.flatMap fun d => [.int .i64 d.a.dev, .int .i64 d.a.inc, .int .i64 d.seq]
theorem dotVals_length : ∀ l : List Dot, (dotVals l).length = l.length * 3
  | [] => rfl
  | d :: l => by
    have := dotVals_length l
    simp only [dotVals, List.flatMap_cons, List.length_append, List.length_cons, List.length_nil] at this ⊢
    omega
theorem dotVals_one (l : List Dot) : ∀ u ∈ dotVals l, u.oneCell' = true := by
  intro u hu
  simp only [dotVals, List.mem_flatMap, List.mem_cons, List.not_mem_nil, or_false] at hu
  obtain ⟨d, _, rfl | rfl | rfl⟩ := hu <;> rfl
theorem dotVals_get : ∀ (l : List Dot) (i : Nat) (h : i < l.length), (dotVals l)[i * 3]? = some (.int .i64 l[i].a.dev) ∧ (dotVals l)[i * 3 + 1]? = some (.int .i64 l[i].a.inc) ∧ (dotVals l)[i * 3 + 2]? = some (.int .i64 l[i].seq)
  | [], i, h => by simp at h
  | d :: l, 0, _ => by simp [dotVals]
  | d :: l, i + 1, h => by
    have ih := dotVals_get l i (by simpa using h)
    have e : dotVals (d :: l) = [.int .i64 d.a.dev, .int .i64 d.a.inc, .int .i64 d.seq] ++ dotVals l := rfl
    rw [e, List.getElem?_append_right (by simp; omega), List.getElem?_append_right (by simp; omega), List.getElem?_append_right (by simp; omega)]
    simp only [List.length_cons, List.length_nil, List.getElem_cons_succ]
    rw [show (i + 1) * 3 - (0 + 1 + 1 + 1) = i * 3 by omega, show (i + 1) * 3 + 1 - (0 + 1 + 1 + 1) = i * 3 + 1 by omega, show (i + 1) * 3 + 2 - (0 + 1 + 1 + 1) = i * 3 + 2 by omega]
    exact ih
theorem DotsAt.news {w : World} {A off : Nat} {l : List Dot} (h : DotsAt w A off l) : ∀ j u, (dotVals l)[j]? = some u → w.cell? ((⟨A, off, none⟩ : Addr).add j) = some u := by
  intro j u hj
  have hlt : j < l.length * 3 := by
    have := (List.getElem?_eq_some_iff.1 hj).1
    rwa [dotVals_length] at this
  obtain ⟨g0, g1, g2⟩ := dotVals_get l (j / 3) (by omega)
  rw [Addr.add_mid]
  have h3 : j = j / 3 * 3 ∨ j = j / 3 * 3 + 1 ∨ j = j / 3 * 3 + 2 := by omega
  rcases h3 with e | e | e
  · rw [← e, hj] at g0
    have := h.dev (j / 3) (by omega)
    rw [← e] at this
    rw [this, g0]
  · rw [← e, hj] at g1
    have := h.inc (j / 3) (by omega)
    rw [Nat.add_assoc, ← e] at this
    rw [this, g1]
  · rw [← e, hj] at g2
    have := h.seq (j / 3) (by omega)
    rw [Nat.add_assoc, ← e] at this
    rw [this, g2]
end Go.Proofs.Ytohmadchgacafaa

/- A clone of an event: event.Clone. Conditions: at most 2^30 dots. -/
namespace Go.Proofs.Ytohmadchgacafaa
open Go.RowKit

end Go.Proofs.Ytohmadchgacafaa

/- Slices of events of one's own. Conditions: none. -/
namespace Go.Proofs.Ytohmadchgacafaa
open Go.RowKit

/-- slices of events of one's own -/
def evItCells (l : List EvIt) : List Value := l.flatMap itEv
theorem evCells_len (x : Ev) (a : Option Addr) (cap : Nat) : (evCells x a cap).length = 19 := rfl
theorem evItCells_snoc (l : List EvIt) (x : EvIt) : evItCells (l ++ [x]) = evItCells l ++ itEv x := by simp [evItCells]
theorem evCells_one (x : Ev) (a : Option Addr) (cap : Nat) : ∀ u ∈ evCells x a cap, u.oneCell' = true := by
  intro u hu
  simp only [evCells, List.mem_cons, List.not_mem_nil, or_false] at hu
  rcases hu with rfl | rfl | rfl | rfl | rfl | rfl | rfl | rfl | rfl | rfl | rfl | rfl | rfl | rfl | rfl | rfl | rfl | rfl | rfl <;> rfl
theorem evItCells_at : ∀ (l : List EvIt) (i j : Nat) (u : Value) (hi : i < l.length), (itEv l[i])[j]? = some u → (evItCells l)[i * 19 + j]? = some u
  | [], i, _, _, hi, _ => by simp at hi
  | x :: r, i, j, u, hi, h => by
    have e : evItCells (x :: r) = itEv x ++ evItCells r := by simp [evItCells]
    have hj : j < 19 := by
      have := (List.getElem?_eq_some_iff.1 h).1
      rwa [evCells_len] at this
    rw [e]
    cases i with
    | zero =>
      rw [List.getElem?_append_left (by rw [evCells_len]; omega)]
      simpa using h
    | succ i =>
      rw [List.getElem?_append_right (by rw [evCells_len]; omega), evCells_len, show (i + 1) * 19 + j - 19 = i * 19 + j by omega]
      exact evItCells_at r i j u (by simpa using hi) (by simpa using h)
theorem evsIn_own {w : World} {base : Nat} {t : TypeId} {v : Value} {ls : List EvIt} (h : w.ownsRow base t 19 v ls.length (evItCells ls)) (hd : ∀ x ∈ ls, DotsIn w x.2.1 x.1.over) : ∃ a cap, v = .slice a ls.length cap ∧ EvsIn w a ls := by
  rcases h.2 with ⟨rfl, hn⟩ | ⟨g, cap, cur, hv, rest⟩
  · have : ls = [] := List.length_eq_zero_iff.1 hn
    subst this
    exact ⟨none, 0, rfl, ⟨Or.inl rfl, hd⟩⟩
  · refine ⟨some ⟨g, 0, none⟩, cap, hv, ⟨Or.inr ⟨g, 0, rfl, fun i hi j u hu => ?_⟩, hd⟩⟩
    have := World.ownsRow.cells (g := g) h (by rw [hv]; rfl) (i * 19 + j) u (evItCells_at ls i j u hi hu)
    rw [Addr.add_mid, Nat.zero_add] at this
    rwa [Nat.zero_add]
theorem evs_new (w : World) (x : Ev) (a : Option Addr) (c : Nat) (t : TypeId) : ∀ j u, (evCells x a c)[j]? = some u → (w.alloc (Obj.cells (evCells x a c).toArray t)).cell? ((⟨w.heap.size, 0, none⟩ : Addr).add j) = some u := by
  intro j u hj
  rw [Addr.add_mid, Nat.zero_add, World.cell?_alloc_new]
  simpa using hj
end Go.Proofs.Ytohmadchgacafaa
