/- A clone of an event: event.Clone. Conditions: at most 2^30 dots. -/
import Derived.Test.YtdlhbmhdcdfocaaClone
import Derived.Deep.WholeRow
set_option linter.unusedSimpArgs false
set_option linter.unusedVariables false
set_option linter.unnecessarySimpa false
namespace Go.Proofs.Ytdlhbmhdcdfocaa
open Go.RowKit

/-- a function whose one result is a struct that lies in a block of its own hands back that block's cells -/
theorem ret_cell {P : Program} {fn : Func} {R : Ending → World → Prop} {a : Act} {w : World} (p : Tmp) (ty t : TypeId) (g : Nat) (c : Array Value) (d : TypeDesc) (hr : fn.results = #[.cell p ty])
    (hp : a.tmps.getD p undef = .pointer (some ⟨g, 0, none⟩)) (hg : w.heap[g]? = some (.cells c t (0, 0))) (hu : P.underlying ty = some d) (hd : d.isRow = true) (hi : (P.info? ty).map (·.size) = some c.size)
    (hde : a.defers = []) (hR : R (.returned (.agg c)) w) : bodyPost P fn R .ret a w := by
  have h1 : w.rangeAt g 0 c.toList := fun j v hv => by
    rw [Nat.zero_add]
    simp only [World.cell?, hg]
    simpa using hv
  have h2 := run_loadVar_mid (P := P) w g 0 ty c.toList d h1 hu hd (by simpa using hi)
  refine bodyPost_ret ?_ hde hR
  have hp' : a.tmps[p]?.getD undef = .pointer (some ⟨g, 0, none⟩) := by simpa using hp
  simp [results, hr, hp', asAddr, h2, Sem.run_bind, Result.andThen]
theorem heap_setCell_other (w : World) (a : Addr) (v : Value) (g : Nat) (h : a.block ≠ g) : (w.setCell a v).heap[g]? = w.heap[g]? := by
  simp [World.setCell, Array.getElem?_modify, h]
theorem heap_setRow_other (w : World) (b : Nat) (cs : Array Value) (g : Nat) (h : b ≠ g) : (w.setRow b cs).heap[g]? = w.heap[g]? := by
  simp [World.setRow, Array.getElem?_modify, h]
theorem own_frame {w w' : World} {base : Nat} {e : TypeId} {size : Nat} {v : Value} {n : Nat} {xs : List Value} (h : w.ownsRow base e size v n xs) (hk : ∀ k, base ≤ k → w'.heap[k]? = w.heap[k]?) : w'.ownsRow base e size v n xs := by
  refine ⟨h.1, ?_⟩
  rcases h.2 with hn | ⟨g, cap, cur, hv, hbs, hg, rest⟩
  · exact .inl hn
  · exact .inr ⟨g, cap, cur, hv, hbs, by rw [hk g hbs]; exact hg, rest⟩
theorem own_low {w : World} {base b2 : Nat} {e : TypeId} {size : Nat} {v : Value} {n : Nat} {xs : List Value} (h : w.ownsRow base e size v n xs) (hb : b2 ≤ base) : w.ownsRow b2 e size v n xs := by
  rcases h.2 with hn | ⟨g, cap, cur, hv, hbs, rest⟩
  · exact ⟨h.1, .inl hn⟩
  · exact ⟨h.1, .inr ⟨g, cap, cur, hv, Nat.le_trans hb hbs, rest⟩⟩
theorem below_setRow {B : Nat} {W w : World} (h : Below B W w) {g : Nat} (hg : B ≤ g) (cs : Array Value) : Below B W (w.setRow g cs) :=
  h.trans ⟨rfl, rfl, rfl, by simp [World.setRow], fun k hk => by simp [World.setRow, Array.getElem?_modify]; omega⟩
theorem range_put {w : World} {b : Nat} {e : Ev} {a a' : Option Addr} {cap cap' : Nat} (h : w.rangeAt b 0 (evCells e a cap)) : (w.setCell ⟨b, 18, none⟩ (.slice a' e.over.length cap')).rangeAt b 0 (evCells e a' cap') := by
  intro j v hv
  rw [Nat.zero_add]
  by_cases hj : j = 18
  · subst hj
    simp [evCells] at hv
    subst hv
    exact World.cell?_setCell_same _ _ _ (h 18 _ rfl)
  · rw [World.cell?_setCell_other _ _ _ _ (by simp [Ne.symm hj])]
    have h1 : (evCells e a cap)[j]? = some v := by
      rw [← hv]
      match j, hj with
      | 0, _ | 1, _ | 2, _ | 3, _ | 4, _ | 5, _ | 6, _ | 7, _ | 8, _ | 9, _ | 10, _ | 11, _ | 12, _ | 13, _ | 14, _ | 15, _ | 16, _ | 17, _ => rfl
      | j + 19, _ => rfl
    have := h j v h1
    rwa [Nat.zero_add] at this

/-- behind event.Clone -/
def RetClone (e : Ev) (w : World) (x : Ending) (w' : World) : Prop :=
  ∃ a cap, x = .returned (evVal e a cap) ∧ w'.ownsRow w.heap.size 25 3 (.slice a e.over.length cap) e.over.length (dotVals e.over) ∧ Below w.heap.size w w'

set_option maxRecDepth 100000 in
set_option maxHeartbeats 2000000 in
theorem evClone_any (e : Ev) (a : Option Addr) (cap : Nat) (w : World) (hl : e.over.length ≤ 1073741824) (hn : a = none → e.over = []) (h : DotsIn w a e.over) :
    Calls Try.prog 11 #[evVal e a cap] w (RetClone e w) := by
  have HC := Lib.hid (fun (W : World) (h : DotsIn W a e.over) => CloneDots_any a cap e.over W hl hn h)
  go_enter Try.func11, Try.ntmps11
  go_upto_region 1 with fail
  refine wp_name (fun W hW => ?_)
  have hbt : Below w.heap.size w W := by rw [hW.out]; go_grown
  have hz : W.heap.size = w.heap.size + 2 := by rw [hW.out]; simp
  have hR : W.rangeAt w.heap.size 0 (evCells e a cap) := by rw [hW.out]; exact World.rangeAt_alloc (evCells_box e a cap w _) _
  have hf : W.frozen? ⟨w.heap.size, 18, none⟩ = false := by rw [hW.out]; go_simp
  obtain ⟨C, hC, hCs⟩ : ∃ C : Array Value, W.heap[w.heap.size + 1]? = some (.cells C 34 (0, 0)) ∧ C.size = 19 := by rw [hW.out]; exact ⟨_, by simpa using heap_alloc_last (w.alloc _) _, rfl⟩
  have q18 := hR 18 _ rfl
  rw [Nat.zero_add] at q18
  have ho := h.kept hbt
  clear hW h hn
  go_upto_region 2 with (go_at_call 24; (with_reducible refine (HC.out _ ho).mono ?_); rintro x w1 ⟨v, rfl, hown, hb⟩; obtain ⟨a', cap', rfl, _⟩ := own_dots hown; replace q18 := kept hb q18; replace hR := rangeAt_kept hR hb; replace hf : w1.frozen? ⟨w.heap.size, 18, none⟩ = false := (hb.frozen (p := ⟨w.heap.size, 18, none⟩) (by simp only; omega)).trans hf; replace hC := (hb.block (w.heap.size + 1) (by omega)).trans hC; have hz1 := hb.size; replace hbt := below2 hbt hb; clear hb)
  refine wp_name (fun W2 hW2 => ?_)
  have hR2 : W2.rangeAt w.heap.size 0 (evCells e a' cap') := by rw [hW2.out]; exact range_put hR
  have hbt2 : Below w.heap.size w W2 := by rw [hW2.out]; exact hbt.setCell (by simp) _
  have hC2 : W2.heap[w.heap.size + 1]? = some (.cells C 34 (0, 0)) := by rw [hW2.out, heap_setCell_other _ _ _ _ (by simp)]; exact hC
  have hown2 : W2.ownsRow W.heap.size 25 3 (.slice a' e.over.length cap') e.over.length (dotVals e.over) := by rw [hW2.out]; exact own_frame hown (fun k hk => heap_setCell_other _ _ _ _ (by simp only; omega))
  clear hW2 hR hbt hC hown hf q18
  go_wp2_with (first
    | ((with_reducible refine wpList_load_ev _ w.heap.size e a' cap' hR2 ?_ rfl ?_); exact rfl)
    | (refine wpList_store_row rfl 34 _ _ rfl (w.heap.size + 1) (evCells e a' cap').toArray rfl rfl 34 C hC2 (by kernel_rfl) hCs (by kernel_rfl) ?_))
  refine ret_cell 2 34 34 (w.heap.size + 1) (evCells e a' cap').toArray _ rfl rfl (setRow_heap _ _ _ _ _ _ hC2) Try.underlying34 rfl (by kernel_rfl) rfl ?_
  exact ⟨a', cap', rfl, own_low (own_frame hown2 (fun k hk => heap_setRow_other _ _ _ _ (by omega))) (by omega), below_setRow hbt2 (by omega) _⟩
end Go.Proofs.Ytdlhbmhdcdfocaa
