/- slices.SortFunc at a slice of one's own: dots, actors. Conditions: fewer than 2^30. -/
import Derived.Test.YtkklcpmbgfgcmaaGreatTabIn
import Derived.Test.YtkklcpmbgfgcmaaGreatSetP
import Derived.Test.YtkklcpmbgfgcmaaGreatSrt
import Derived.Shelf.SlSortCmp.NoneTotal
import Derived.Test.YtkklcpmbgfgcmaaGreatTab
import Derived.Test.YtkklcpmbgfgcmaaGreatLast
import Derived.Test.YtkklcpmbgfgcmaaGreatVec
import Derived.Test.YtkklcpmbgfgcmaaGreatMem
set_option linter.unusedSimpArgs false
set_option linter.unusedVariables false
set_option linter.unnecessarySimpa false
namespace Go.Proofs.YtkklcpmbgfgcmaaGreat
open Go.RowKit Go.Shelf
section
variable {α : Type} [Inhabited α] {enc : α → List Value} {k : Nat}
theorem flat_get (hk : ∀ x, (enc x).length = k) (k0 : 0 < k) : ∀ (l : List α) (t : Nat), t < l.length * k → (l.flatMap enc)[t]? = some ((enc l[t / k]!)[t % k]!)
 | [], t, h => by simp at h
 | x :: l, t, h => by
   rw [List.flatMap_cons]
   by_cases ht : t < k
   ·rw [List.getElem?_append_left (by rw [hk]; exact ht), Nat.div_eq_of_lt ht, Nat.mod_eq_of_lt ht]
    have hlt : t < (enc x).length := by rw [hk]; exact ht
    simp [hlt]
   ·have ht' : k ≤ t := by omega
    rw [List.getElem?_append_right (by rw [hk]; exact ht'), hk]
    have h2 : t - k < l.length * k := by
        simp only [List.length_cons, Nat.add_mul, Nat.one_mul] at h
        omega
    rw [flat_get hk k0 l (t - k) h2]
    obtain ⟨u, rfl⟩ : ∃ u, t = u + k := ⟨t - k, by omega⟩
    rw [Nat.add_sub_cancel, Nat.add_div_right u k0, Nat.add_mod_right]
    simp
theorem flatK_get (hk : ∀ x, (enc x).length = k) (k0 : 0 < k) (l : List α) (t : Nat) (h : t < l.length * k) : (l.flatMap enc)[t]? = some (Go.Sort.flatK enc k l.toArray)[t]! := by
 rw [flat_get hk k0 l t h, Go.Sort.get_flatK _ _ _ _ (by simpa using h)]
 simp
omit [Inhabited α] in
theorem flatMap_len (hk : ∀ x, (enc x).length = k) : ∀ l : List α, (l.flatMap enc).length = l.length * k
 | [] => by simp
 | x :: l => by rw [List.flatMap_cons, List.length_append, flatMap_len hk l, hk, List.length_cons, Nat.add_mul, Nat.one_mul, Nat.add_comm]
theorem holdsK_own (hk : ∀ x, (enc x).length = k) (k0 : 0 < k) {w : World} {g : Nat} {cur : Array Value} {e : TypeId} {l : List α} (hb : w.heap[g]? = some (.cells cur e (0, 0))) (ht : cur.toList.take (l.length * k) = l.flatMap enc) : Go.Sort.HoldsK enc k w g 0 l.toArray := by
 intro j hj
 have hj' : j < l.length * k := by simpa using hj
 refine ⟨?_, by simp [World.frozen?, hb]⟩
 have h1 : (cur.toList.take (l.length * k))[j]? = (l.flatMap enc)[j]? := by rw [ht]
 rw [List.getElem?_take_of_lt hj', flatK_get hk k0 l j hj'] at h1
 simp only [World.cell?, hb, Nat.zero_add]
 simp only [Option.isSome_none, Bool.false_eq_true, if_false]
 rw [← Array.getElem?_toList, h1]
 rfl
theorem heap_sortK {w : World} {g n : Nat} {os : Array Obj} {cur : Array Value} {e : TypeId} {fr : Nat × Nat} (d : Array α) (hb : w.heap[g]? = some (.cells cur e fr)) :
 (sortWorldK enc k w g 0 n d os).heap[g]? = some (.cells (Go.Sort.putCells id 0 (Go.Sort.flatK enc k d) cur) e fr) := by
 have hg : g < w.heap.size := (Array.getElem?_eq_some_iff.1 hb).1
 unfold sortWorldK Go.Sort.putRowK
 rw [Go.Sort.heap_grow_old _ _ (by simpa [Go.Sort.putRow, Go.Sort.mapBlock, Go.Sort.ahead] using hg)]
 simp [Go.Sort.putRow, Go.Sort.mapBlock, Go.Sort.ahead, Array.getElem?_modify, hb, Go.Sort.onCells]
theorem fr_sortK {w : World} {g n : Nat} {os : Array Obj} (d : Array α) : Fr (isR g) w (sortWorldK enc k w g 0 n d os) := by
 unfold sortWorldK Go.Sort.putRowK
 refine ⟨rfl, rfl, rfl, by simp [Go.Sort.putRow, Go.Sort.mapBlock, Go.Sort.ahead], fun j hj hne => ?_⟩
 rw [Go.Sort.heap_grow_old _ _ (by simpa [Go.Sort.putRow, Go.Sort.mapBlock, Go.Sort.ahead] using hj)]
 have : g ≠ j := fun e => hne e.symm
 simp [Go.Sort.putRow, Go.Sort.mapBlock, Go.Sort.ahead, Array.getElem?_modify, this]
theorem take_putK (hk : ∀ x, (enc x).length = k) (k0 : 0 < k) (cur : Array Value) (l : List α) (h : l.length * k ≤ cur.size) : (Go.Sort.putCells id 0 (Go.Sort.flatK enc k l.toArray) cur).toList.take (l.length * k) = l.flatMap enc := by
 apply List.ext_getElem?
 intro j
 by_cases hj : j < l.length * k
 ·have hjc : j < cur.size := by omega
  have hjf : j < (Go.Sort.flatK enc k l.toArray).size := by simpa using hj
  rw [List.getElem?_take_of_lt hj, Array.getElem?_toList, flatK_get hk k0 l j hj]
  simp only [Go.Sort.putCells, Array.getElem?_mapIdx, Array.getElem?_eq_getElem hjc, Option.map_some, Nat.zero_add, Nat.zero_le, true_and, if_pos hjf, Nat.sub_zero, id]
 ·rw [List.getElem?_take_eq_none (by omega), List.getElem?_eq_none (by rw [flatMap_len hk]; omega)]
theorem ownsRow_sortK (hk : ∀ x, (enc x).length = k) (k0 : 0 < k) {w : World} {base g cap n : Nat} {e : TypeId} {os : Array Obj} {cur : Array Value} {ss ts : List α} (hl : ts.length = ss.length) (hbase : base ≤ g) (hb : w.heap[g]? = some (.cells cur e (0, 0)))
 (h1 : ss.length ≤ cap) (h2 : cap ≤ maxLen) (h3 : cur.size = cap * k) :
 (sortWorldK enc k w g 0 n ts.toArray os).ownsRow base e k (.slice (some ⟨g, 0, none⟩) ss.length cap) ss.length (ts.flatMap enc) :=
 ⟨by rw [flatMap_len hk, hl], .inr ⟨g, cap, _, rfl, hbase, heap_sortK _ hb, h1, h2, by simp [Go.Sort.putCells, h3], by
  rw [← hl]
  exact take_putK hk k0 cur ts (by rw [hl, h3]; exact Nat.mul_le_mul_right k h1)⟩⟩
end
instance : Inhabited Actor := ⟨⟨0, 0⟩⟩
instance : Inhabited Dot := ⟨⟨⟨0, 0⟩, 0⟩⟩
end Go.Proofs.YtkklcpmbgfgcmaaGreat
/- The sorted keys of a map; dot.Sort. Conditions: at most 2^30 of them. -/
namespace Go.Proofs.YtkklcpmbgfgcmaaGreat
open Go.RowKit Go.Shelf
end Go.Proofs.YtkklcpmbgfgcmaaGreat
/- dot.Sort. Conditions: at most 2^30 dots. -/
namespace Go.Proofs.YtkklcpmbgfgcmaaGreat
open Go.RowKit Go.Shelf
theorem DotsIn.at {w : World} {a : Option Addr} {l : List Dot} (h : DotsIn w a l) {k : Nat} (hk : k < l.length) :
 ∃ A off, a = some ⟨A, off, none⟩ ∧ w.cell? ⟨A, off + k * 3, none⟩ = some (.int .i64 l[k].a.dev) ∧ w.cell? ⟨A, off + k * 3 + 1, none⟩ = some (.int .i64 l[k].a.inc) ∧ w.cell? ⟨A, off + k * 3 + 2, none⟩ = some (.int .i64 l[k].seq) := by
 rcases h with rfl | ⟨A, off, h1, h2⟩
 ·simp at hk
 ·exact ⟨A, off, h1, h2.dev k hk, h2.inc k hk, h2.seq k hk⟩
end Go.Proofs.YtkklcpmbgfgcmaaGreat
