/- Memory: blocks stored whole, cells set, results that lie in blocks. Conditions: none. -/
import Derived.Test.YtohmadchgacafaaLoad
import Derived.Test.YtohmadchgacafaaPack
import Derived.OneCell
import Derived.Test.YtohmadchgacafaaKit
import Derived.Lib.AppendStr
import Derived.IntWalk
import Derived.Deep.WholeRow
set_option linter.unusedSimpArgs false
set_option linter.unusedVariables false
set_option linter.unnecessarySimpa false
namespace Go.Proofs.Ytohmadchgacafaa
open Go.RowKit

/-- a function whose one result is a struct that lies in a block of its own hands back that block's cells -/
theorem ret_cell {P : Program} {fn : Func} {R : Ending → World → Prop} {a : Act} {w : World} (p : Tmp) (ty t : TypeId) (g : Nat) (c : Array Value) (d : TypeDesc) (hr : fn.results = #[.cell p ty])
    (hp : a.tmps.getD p undef = .pointer (some ⟨g, 0, none⟩)) (hg : w.heap[g]? = some (.cells c t (0, 0))) (hu : P.underlying ty = some d) (hd : d.isRow = true) (hi : (P.info? ty).map (·.size) = some c.size)
    (hde : a.defers = []) (hR : R (.returned (.agg c)) w) : bodyPost P fn R .ret a w := by
  have h1 : w.rangeAt g 0 c.toList := fun j v hv => by
    rw [Nat.zero_add]
    simp only [World.cell?, hg]
    simpa using hv
  have h2 := run_loadVar_mid (P := P) w g 0 ty c.toList d h1 hu hd (by simpa using hi)
  refine bodyPost_ret ?_ hde hR
  have hp' : a.tmps[p]?.getD undef = .pointer (some ⟨g, 0, none⟩) := by simpa using hp
  simp [results, hr, hp', asAddr, h2, Sem.run_bind, Result.andThen]
theorem own_frame {w w' : World} {base : Nat} {e : TypeId} {size : Nat} {v : Value} {n : Nat} {xs : List Value} (h : w.ownsRow base e size v n xs) (hk : ∀ k, base ≤ k → w'.heap[k]? = w.heap[k]?) : w'.ownsRow base e size v n xs := by
  refine ⟨h.1, ?_⟩
  rcases h.2 with hn | ⟨g, cap, cur, hv, hbs, hg, rest⟩
  · exact .inl hn
  · exact .inr ⟨g, cap, cur, hv, hbs, by rw [hk g hbs]; exact hg, rest⟩
theorem own_low {w : World} {base b2 : Nat} {e : TypeId} {size : Nat} {v : Value} {n : Nat} {xs : List Value} (h : w.ownsRow base e size v n xs) (hb : b2 ≤ base) : w.ownsRow b2 e size v n xs := by
  rcases h.2 with hn | ⟨g, cap, cur, hv, hbs, rest⟩
  · exact ⟨h.1, .inl hn⟩
  · exact ⟨h.1, .inr ⟨g, cap, cur, hv, Nat.le_trans hb hbs, rest⟩⟩
theorem below_setRow {B : Nat} {W w : World} (h : Below B W w) {g : Nat} (hg : B ≤ g) (cs : Array Value) : Below B W (w.setRow g cs) :=
  h.trans ⟨rfl, rfl, rfl, by simp [World.setRow], fun k hk => by simp [World.setRow, Array.getElem?_modify]; omega⟩
theorem range_put {w : World} {b : Nat} {e : Ev} {a a' : Option Addr} {cap cap' : Nat} (h : w.rangeAt b 0 (evCells e a cap)) : (w.setCell ⟨b, 18, none⟩ (.slice a' e.over.length cap')).rangeAt b 0 (evCells e a' cap') := by
  intro j v hv
  rw [Nat.zero_add]
  by_cases hj : j = 18
  · subst hj
    simp [evCells] at hv
    subst hv
    exact World.cell?_setCell_same _ _ _ (h 18 _ rfl)
  · rw [World.cell?_setCell_other _ _ _ _ (by simp [Ne.symm hj])]
    have h1 : (evCells e a cap)[j]? = some v := by
      rw [← hv]
      match j, hj with
      | 0, _ | 1, _ | 2, _ | 3, _ | 4, _ | 5, _ | 6, _ | 7, _ | 8, _ | 9, _ | 10, _ | 11, _ | 12, _ | 13, _ | 14, _ | 15, _ | 16, _ | 17, _ => rfl
      | j + 19, _ => rfl
    have := h j v h1
    rwa [Nat.zero_add] at this

theorem wpList_store_new {P : Program} {ops : Array Oper} {rest : List Oper} {a : Act} {w : World} {Q : Exit → Act → World → Prop} {type : TypeId} {pos : String} {after : Array Edge} (ty : TypeId) (x y : Operand) (c c' : Array Value)
    (hx : a.eval x = .pointer (some ⟨w.heap.size, 0, none⟩)) (hy : a.eval y = .agg c') (hi : (P.info? ty).map (·.size) = some c'.size) (hold : c.size = c'.size) (h1 : c'.all (·.oneCell') = true)
    (h : wpList P ops Q rest a (w.alloc (.cells c' ty))) : wpList P ops Q (⟨none, .store ty x y, type, pos, after, none⟩ :: rest) a (w.alloc (.cells c ty)) := by
  refine wpList_store_row rfl ty x y rfl w.heap.size c' hx hy ty c (heap_alloc_last w _) hi hold h1 ?_
  rw [World.setRow_alloc_new]
  exact h

theorem wpList_store_newAt {P : Program} {ops : Array Oper} {rest : List Oper} {a : Act} {w : World} {Q : Exit → Act → World → Prop} {type : TypeId} {pos : String} {after : Array Edge} (ty : TypeId) (x y : Operand) (c c' : Array Value) (N : Nat) (hN : w.heap.size = N)
    (hx : a.eval x = .pointer (some ⟨N, 0, none⟩)) (hy : a.eval y = .agg c') (hi : (P.info? ty).map (·.size) = some c'.size) (hold : c.size = c'.size) (h1 : c'.all (·.oneCell') = true)
    (h : wpList P ops Q rest a (w.alloc (.cells c' ty))) : wpList P ops Q (⟨none, .store ty x y, type, pos, after, none⟩ :: rest) a (w.alloc (.cells c ty)) := by
  subst hN
  exact wpList_store_new ty x y c c' hx hy hi hold h1 h
end Go.Proofs.Ytohmadchgacafaa
