/- The disk: Names: the names, sorted. Conditions: at most 8 files. -/
import Derived.Test.YtbkelbdeodbhcaaDiskN
import Derived.Test.YtbkelbdeodbhcaaDiskIter
set_option linter.unusedSimpArgs false
set_option linter.unusedVariables false
set_option linter.unnecessarySimpa false
namespace Go.Proofs.Ytbkelbdeodbhcaa
open Go.RowKit Go.Maps Go.Sort Go.Shelf

variable {F : Nat → Prop} {d : Nat} {S : DS} {b : Nat} {D : DataW Unit} {s : ByteArray} {w w' : World}

set_option maxHeartbeats 400000 in
theorem Names_nil (w : World) : Calls Try.prog 26 #[.pointer none] w fun e w' => e = .returned (.slice none 0 0) ∧ w = w' := by
  go_enter Try.func26, Try.ntmps26
  go_wp2
  all_goals
    go_ret
    exact ⟨rfl, rfl⟩
set_option maxHeartbeats 1000000 in
theorem Names_any (h : DkIn w F d S b D) (h8 : S.f.length ≤ 8) : Calls Try.prog 26 #[.pointer (some ⟨d, 0, none⟩)] w fun e w' => ∃ (v : Value) (ss : List (List UInt8)), e = .returned v ∧ ss.Perm (strKeys D) ∧
    w'.ownsRow w.heap.size 9 1 v ss.length ((ss.mergeSort (fun x y => decide (x ≤ y))).map encStr) ∧ (v = .slice none 0 0 ↔ ss = []) ∧ Below w.heap.size w w' := by
  obtain ⟨p0, p1, p2, f0, f1, f2⟩ := three_cell h.cells
  have hown := h.own
  have hsz := h.files.size
  have hmax : Maps.size D ≤ maxLen := by rw [hsz]; unfold maxLen; omega
  have hbytes : Maps.size D * 16 ≤ 140737488355328 := by rw [hsz]; omega
  clear h
  refine (callsIn_wide (n := 6)).1 ?_
  have hfK : Fence.wide.fn 41 := trivial
  have hfS : Fence.wide.fn 40 := trivial
  refine callsIn_of_wp Try.func26 rfl trivial ?_ rfl
  simp only [Try.ntmps26, List.size_toArray, List.length_cons, List.length_nil, Nat.reduceAdd, Nat.reduceSub, Array.replicate_succ, Array.replicate_zero, List.push_toArray, List.append_toArray, List.nil_append, List.cons_append]
  gi_wp2_with (first
    | (gi_at_call 41; refine (Try.maps_Keys_41 _ _).mono ?_; rintro e w' ⟨rfl, rfl⟩)
    | (gi_at_call 40; refine (Try.slices_Sorted_keys_40_41 b S.f.length D fileR w hown hmax hbytes).mono ?_; rintro e w' ⟨v, ss, rfl, hS, hrow, hnil, hb⟩))
  go_ret
  exact ⟨v, ss, rfl, hS, ownsRow_base_a hrow (by simp), hnil, ((Below.refl _ w).alloc (Nat.le_refl _) _).trans (hb.mono (by simp))⟩
end Go.Proofs.Ytbkelbdeodbhcaa
