/- A clone of an event: event.Clone. Conditions: at most 2^30 dots. -/
import Derived.Test.YtcijajjngmmbeaaClone
import Derived.Test.YtcijajjngmmbeaaMem
set_option linter.unusedSimpArgs false
set_option linter.unusedVariables false
set_option linter.unnecessarySimpa false
namespace Go.Proofs.Ytcijajjngmmbeaa
open Go.RowKit

/-- behind event.Clone -/
def RetClone (e : Ev) (w : World) (x : Ending) (w' : World) : Prop :=
  ∃ a cap, x = .returned (evVal e a cap) ∧ w'.ownsRow w.heap.size 27 3 (.slice a e.over.length cap) e.over.length (dotVals e.over) ∧ Below w.heap.size w w'

set_option maxRecDepth 100000 in
set_option maxHeartbeats 2000000 in
theorem evClone_any (e : Ev) (a : Option Addr) (cap : Nat) (w : World) (hl : e.over.length ≤ 1073741824) (hn : a = none → e.over = []) (h : DotsIn w a e.over) :
    Calls Try.prog 15 #[evVal e a cap] w (RetClone e w) := by
  have HC := Lib.hid (fun (W : World) (h : DotsIn W a e.over) => CloneDots_any a cap e.over W hl hn h)
  go_enter Try.func15, Try.ntmps15
  go_upto_region 1 with fail
  refine wp_name (fun W hW => ?_)
  have hbt : Below w.heap.size w W := by rw [hW.out]; go_grown
  have hz : W.heap.size = w.heap.size + 2 := by rw [hW.out]; simp
  have hR : W.rangeAt w.heap.size 0 (evCells e a cap) := by rw [hW.out]; exact World.rangeAt_alloc (evCells_box e a cap w _) _
  have hf : W.frozen? ⟨w.heap.size, 18, none⟩ = false := by rw [hW.out]; go_simp
  obtain ⟨C, hC, hCs⟩ : ∃ C : Array Value, W.heap[w.heap.size + 1]? = some (.cells C 39 (0, 0)) ∧ C.size = 19 := by rw [hW.out]; exact ⟨_, by simpa using heap_alloc_last (w.alloc _) _, rfl⟩
  have q18 := hR 18 _ rfl
  rw [Nat.zero_add] at q18
  have ho := h.kept hbt
  clear hW h hn
  go_upto_region 2 with (go_at_call 26; (with_reducible refine (HC.out _ ho).mono ?_); rintro x w1 ⟨v, rfl, hown, hb⟩; obtain ⟨a', cap', rfl, _⟩ := own_dots hown; replace q18 := kept hb q18; replace hR := rangeAt_kept hR hb; replace hf : w1.frozen? ⟨w.heap.size, 18, none⟩ = false := (hb.frozen (p := ⟨w.heap.size, 18, none⟩) (by simp only; omega)).trans hf; replace hC := (hb.block (w.heap.size + 1) (by omega)).trans hC; have hz1 := hb.size; replace hbt := below2 hbt hb; clear hb)
  refine wp_name (fun W2 hW2 => ?_)
  have hR2 : W2.rangeAt w.heap.size 0 (evCells e a' cap') := by rw [hW2.out]; exact range_put hR
  have hbt2 : Below w.heap.size w W2 := by rw [hW2.out]; exact hbt.setCell (by simp) _
  have hC2 : W2.heap[w.heap.size + 1]? = some (.cells C 39 (0, 0)) := by rw [hW2.out, heap_setCell_other _ _ _ _ (by simp)]; exact hC
  have hown2 : W2.ownsRow W.heap.size 27 3 (.slice a' e.over.length cap') e.over.length (dotVals e.over) := by rw [hW2.out]; exact own_frame hown (fun k hk => heap_setCell_other _ _ _ _ (by simp only; omega))
  clear hW2 hR hbt hC hown hf q18
  go_wp2_with (first
    | ((with_reducible refine wpList_load_ev _ w.heap.size e a' cap' hR2 ?_ rfl ?_); exact rfl)
    | (refine wpList_store_row rfl 39 _ _ rfl (w.heap.size + 1) (evCells e a' cap').toArray rfl rfl 39 C hC2 (by kernel_rfl) hCs (by kernel_rfl) ?_))
  refine ret_cell 2 39 39 (w.heap.size + 1) (evCells e a' cap').toArray _ rfl rfl (setRow_heap _ _ _ _ _ _ hC2) Try.underlying39 rfl (by kernel_rfl) rfl ?_
  exact ⟨a', cap', rfl, own_low (own_frame hown2 (fun k hk => heap_setRow_other _ _ _ _ (by omega))) (by omega), below_setRow hbt2 (by omega) _⟩
end Go.Proofs.Ytcijajjngmmbeaa
