/- Memory: blocks stored whole, cells set, results that lie in blocks. Conditions: none. -/
import Derived.Test.YtkklcpmbgfgcmaaGreatLoad
import Derived.Test.YtkklcpmbgfgcmaaGreatPack
import Derived.OneCell
import Derived.Test.YtkklcpmbgfgcmaaGreatKit
import Derived.Lib.AppendStr
import Derived.IntWalk
import Derived.Deep.WholeRow
set_option linter.unusedSimpArgs false
set_option linter.unusedVariables false
set_option linter.unnecessarySimpa false
namespace Go.Proofs.YtkklcpmbgfgcmaaGreat
open Go.RowKit
theorem own_low {w : World} {base b2 : Nat} {e : TypeId} {size : Nat} {v : Value} {n : Nat} {xs : List Value} (h : w.ownsRow base e size v n xs) (hb : b2 ≤ base) : w.ownsRow b2 e size v n xs := by
 rcases h.2 with hn | ⟨g, cap, cur, hv, hbs, rest⟩
 ·exact ⟨h.1, .inl hn⟩
 ·exact ⟨h.1, .inr ⟨g, cap, cur, hv, Nat.le_trans hb hbs, rest⟩⟩
theorem below_setRow {B : Nat} {W w : World} (h : Below B W w) {g : Nat} (hg : B ≤ g) (cs : Array Value) : Below B W (w.setRow g cs) :=
 h.trans ⟨rfl, rfl, rfl, by simp [World.setRow], fun k hk => by simp [World.setRow, Array.getElem?_modify]; omega⟩
theorem wpList_store_new {P : Program} {ops : Array Oper} {rest : List Oper} {a : Act} {w : World} {Q : Exit → Act → World → Prop} {type : TypeId} {pos : String} {after : Array Edge} (ty : TypeId) (x y : Operand) (c c' : Array Value)
 (hx : a.eval x = .pointer (some ⟨w.heap.size, 0, none⟩)) (hy : a.eval y = .agg c') (hi : (P.info? ty).map (·.size) = some c'.size) (hold : c.size = c'.size) (h1 : c'.all (·.oneCell') = true)
 (h : wpList P ops Q rest a (w.alloc (.cells c' ty))) : wpList P ops Q (⟨none, .store ty x y, type, pos, after, none⟩ :: rest) a (w.alloc (.cells c ty)) := by
 refine wpList_store_row rfl ty x y rfl w.heap.size c' hx hy ty c (heap_alloc_last w _) hi hold h1 ?_
 rw [World.setRow_alloc_new]
 exact h
end Go.Proofs.YtkklcpmbgfgcmaaGreat
