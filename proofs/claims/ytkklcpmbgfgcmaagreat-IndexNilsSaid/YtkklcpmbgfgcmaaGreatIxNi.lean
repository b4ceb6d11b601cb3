/- A nil index: what its functions answer. Conditions: none. -/
import Derived.Test.YtkklcpmbgfgcmaaGreatIxY
set_option linter.unusedSimpArgs false
set_option linter.unusedVariables false
set_option linter.unnecessarySimpa false
namespace Go.Proofs.YtkklcpmbgfgcmaaGreat
open Go.RowKit
set_option maxRecDepth 100000 in
set_option maxHeartbeats 2000000 in
theorem getNil_any (k : Key) (w : World) : Calls Tryz.prog 6 #[.pointer none, keyV k] w (RetFind [] k w) := by
 go_enter Tryz.func6, Tryz.ntmps6
 go_upto_region 2 with fail
 refine wp_name (fun W hW => ?_)
 have hb : Below w.heap.size w W := by rw [hW.out]; go_grown
 obtain ⟨C, hC, hCs⟩ : ∃ C : Array Value, W.heap[w.heap.size + 1]? = some (.cells C 27 (0, 0)) ∧ C.size = 11 := ⟨_, by rw [hW.out]; exact heap_last1 w _ _, rfl⟩
 clear hW
 go_wp2_with (refine wpList_store_row rfl 27 _ _ rfl (w.heap.size + 1) (itCells it0).toArray rfl (by kernel_rfl) 27 C hC (by kernel_rfl) hCs (by kernel_rfl) ?_)
 refine ret_cell_tmpI 4 5 27 27 (w.heap.size + 1) (itCells it0).toArray _ _ rfl rfl rfl (setRow_heap _ _ _ _ _ _ hC) Tryz.underlying27 rfl (by kernel_rfl) rfl ?_
 exact ⟨rfl, below_setRow hb (by omega) _⟩
set_option maxRecDepth 100000 in
theorem putNil_any (y : It) (w : World) : Calls Tryz.prog 9 #[.pointer none, itVal y] w fun e w' => e = .returned (.bool false) ∧ Below w.heap.size w w' := by
 go_enter Tryz.func9, Tryz.ntmps9
 go_wp2
 all_goals
  go_ret
  exact ⟨rfl, by go_grown⟩
set_option maxRecDepth 100000 in
theorem removeNil_any (k : Key) (w : World) : Calls Tryz.prog 10 #[.pointer none, keyV k] w fun e w' => e = .returned (.bool false) ∧ Below w.heap.size w w' := by
 have HG := Lib.hid (fun X => getNil_any k X)
 go_enter Tryz.func10, Tryz.ntmps10
 go_upto_region 1 with fail
 refine wp_name (fun W hW => ?_)
 have hb : Below w.heap.size w W := by rw [hW.out]; go_grown
 have k0 : W.cell? ⟨w.heap.size, 0, none⟩ = some (.string k.name) := by rw [hW.out]; go_simp
 have k1 : W.cell? ⟨w.heap.size, 1, none⟩ = some (.string k.domain) := by rw [hW.out]; go_simp
 have k2 : W.cell? ⟨w.heap.size, 2, none⟩ = some (.string k.path) := by rw [hW.out]; go_simp
 have hK := KeyAt.range (k := k) (w := W) (K := w.heap.size) ⟨k0, k1, k2⟩
 clear hW k0 k1 k2
 go_wp2_with (first
  | ((with_reducible refine wpList_load_to 23 _ w.heap.size 0 (keyCs k) (keyV k) rfl _ Tryz.underlying23 rfl (by kernel_rfl) hK ?_ rfl ?_); exact rfl)
  |  (go_at_call 6; (refine (HG.out _).mono ?_); rintro e w1 ⟨rfl, hb1⟩))
 all_goals
  go_ret
  exact ⟨rfl, by first | exact below2 hb hb1 | exact below2 hb (hb1.alloc hb1.size _)⟩
theorem domainNil_any (d : ByteArray) (w : World) : Calls Tryz.prog 8 #[.pointer none, .string d] w fun e w' => e = .returned (.slice none 0 0) ∧ Below w.heap.size w w' := by
 go_enter Tryz.func8, Tryz.ntmps8
 go_wp2
 all_goals
  go_ret
  exact ⟨rfl, by go_grown⟩
theorem nearNil_any (d : ByteArray) (w : World) : Calls Tryz.prog 11 #[.pointer none, .string d] w fun e w' => e = .returned (.slice none 0 0) ∧ Below w.heap.size w w' := by
 go_enter Tryz.func11, Tryz.ntmps11
 go_wp2
 all_goals
  go_ret
  exact ⟨rfl, by go_grown⟩
theorem itemsNil_any (w : World) : Calls Tryz.prog 13 #[.pointer none] w fun e w' => e = .returned (.slice none 0 0) ∧ Below w.heap.size w w' := by
 go_enter Tryz.func13, Tryz.ntmps13
 go_wp2
 all_goals
  go_ret
  exact ⟨rfl, by go_grown⟩
theorem lenNil_any (w : World) : Calls Tryz.prog 14 #[.pointer none] w fun e w' => e = .returned (.int .i64 0) ∧ Below w.heap.size w w' := by
 go_enter Tryz.func14, Tryz.ntmps14
 go_wp2
 all_goals
  go_ret
  exact ⟨rfl, by go_grown⟩
theorem nodesNil_any (w : World) : Calls Tryz.prog 15 #[.pointer none] w fun e w' => e = .returned (.int .i64 0) ∧ Below w.heap.size w w' := by
 go_enter Tryz.func15, Tryz.ntmps15
 go_wp2
 all_goals
  go_ret
  exact ⟨rfl, by go_grown⟩
end Go.Proofs.YtkklcpmbgfgcmaaGreat
