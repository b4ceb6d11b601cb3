/- The index: an item found by its key. Conditions: as in the text. -/
import Derived.Test.YtkklcpmbgfgcmaaGreatIxF
set_option linter.unusedSimpArgs false
set_option linter.unusedVariables false
set_option linter.unnecessarySimpa false
namespace Go.Proofs.YtkklcpmbgfgcmaaGreat
open Go.RowKit
variable {lo : Nat}
theorem ret_cell_tmpI {P : Program} {fn : Func} {R : Ending → World → Prop} {a : Act} {w : World} (p u : Tmp) (ty t : TypeId) (g : Nat) (c : Array Value) (d : TypeDesc) (v : Value) (hr : fn.results = #[.cell p ty, .tmp u])
 (hp : a.tmps.getD p undef = .pointer (some ⟨g, 0, none⟩)) (hv : a.tmps.getD u undef = v) (hg : w.heap[g]? = some (.cells c t (0, 0))) (hu : P.underlying ty = some d) (hd : d.isRow = true) (hi : (P.info? ty).map (·.size) = some c.size)
 (hde : a.defers = []) (hR : R (.returned (.tuple #[.agg c, v])) w) : bodyPost P fn R .ret a w := by
 have h1 : w.rangeAt g 0 c.toList := fun j v hv => by
  rw [Nat.zero_add]
  simp only [World.cell?, hg]
  simpa using hv
 have h2 := run_loadVar_mid (P := P) w g 0 ty c.toList d h1 hu hd (by simpa using hi)
 refine bodyPost_ret ?_ hde hR
 rw [results_cell_tmp hr, hp, hv]
 simp [asAddr, h2, Result.andThen]
/-- what is found of a key -/
abbrev findV (l : List It) (k : Key) : Value := .tuple #[itVal ((getI l k).getD it0), .bool (getI l k).isSome]
def RetFind (l : List It) (k : Key) (w : World) (e : Ending) (w' : World) : Prop := e = .returned (findV l k) ∧ Below w.heap.size w w'
set_option maxRecDepth 100000 in
set_option maxHeartbeats 2000000 in
theorem ixFind_any (b : Nat) (a : Option Addr) (cap : Nat) (l : List It) (k : Key) (w : World) (hl : l.length ≤ 1073741824) (h0 : w.cell? ⟨b, 0, none⟩ = some (.slice a l.length cap)) (hin : ItsIn w a l) :
 Calls Tryz.prog 18 #[ndVal b, keyV k] w (RetFind l k w) := by
 have hmf : ∀ (fn : Fn) (first cap : Array Value) (w : World), (Instr.makeFunc fn first cap).run Tryz.prog w = .ok (.func fn first cap) w := fun _ _ _ _ => rfl
 go_enter Tryz.func18, Tryz.ntmps18
 go_upto_region 3 with fail
 refine wp_name (fun W hW => ?_)
 have hb : Below w.heap.size w W := by rw [hW.out]; go_grown
 have hK : KeyAt W w.heap.size k := by rw [hW.out]; exact ⟨by go_simp, by go_simp, by go_simp⟩
 obtain ⟨C, hC, hCs⟩ : ∃ C : Array Value, W.heap[w.heap.size + 1]? = some (.cells C 27 (0, 0)) ∧ C.size = 11 := ⟨_, by rw [hW.out]; exact heap_last1 w _ _, rfl⟩
 have h0W := kept hb h0
 have hinW := hin.kept hb
 have HI := Lib.hid (idxFunc_any a cap l k w.heap.size W hl hinW hK)
 clear hW h0 hin hK
 cases hg : getI l k with
 | none =>
   rw [idxI_none hg] at HI
   have HR : Hid (findV l k = .tuple #[itVal it0, .bool false]) := by unfold Hid findV; rw [hg]; rfl
   clear hg
   go_upto_region 5 with (go_at_call 31; refine HI.out.mono ?_; rintro e w1 ⟨rfl, hb1⟩)
   have hbw : Below w.heap.size w w1 := below2 hb hb1
   have hC1 := (hb1.block _ (Array.getElem?_eq_some_iff.1 hC).1).trans hC
   clear hb1 hC hb h0W hinW HI
   go_wp2_with (refine wpList_store_row rfl 27 _ _ rfl (w.heap.size + 1) (itCells it0).toArray rfl (by kernel_rfl) 27 C hC1 (by kernel_rfl) hCs (by kernel_rfl) ?_)
   refine ret_cell_tmpI 4 5 27 27 (w.heap.size + 1) (itCells it0).toArray _ _ rfl rfl rfl (setRow_heap _ _ _ _ _ _ hC1) Tryz.underlying27 rfl (by kernel_rfl) rfl ?_
   exact ⟨by rw [HR.out]; rfl, below_setRow hbw (by omega) _⟩
 | some y =>
   obtain ⟨i, hi, hil, hiy⟩ := idxI_some hg
   rw [hi] at HI
   have HR : Hid (findV l k = .tuple #[itVal y, .bool true]) := by unfold Hid findV; rw [hg]; rfl
   obtain ⟨A, off, rfl, hr⟩ := ItsIn.at hinW hil
   rw [hiy] at hr
   have hbi : i ≤ 1073741824 := by omega
   clear hg hi hiy
   go_upto_region 6 with (go_at_call 31; refine HI.out.mono ?_; rintro e w1 ⟨rfl, hb1⟩)
   have hbw : Below w.heap.size w w1 := below2 hb hb1
   have hC1 := (hb1.block _ (Array.getElem?_eq_some_iff.1 hC).1).trans hC
   have h01 := kept hb1 h0W
   have hr1 := rangeAt_kept hr hb1
   clear hb1 hC hb h0W hinW HI hr
   go_wp2_with (first
    | ((with_reducible refine wpList_load_to 27 _ A (off + i * 11) (itCells y) (itVal y) rfl _ Tryz.underlying27 rfl (by kernel_rfl) hr1 ?_ rfl ?_); exact rfl)
    | (refine wpList_store_row rfl 27 _ _ rfl (w.heap.size + 1) (itCells y).toArray rfl rfl 27 C hC1 (by kernel_rfl) hCs (by kernel_rfl) ?_))
   refine ret_cell_tmpI 4 5 27 27 (w.heap.size + 1) (itCells y).toArray _ _ rfl rfl rfl (setRow_heap _ _ _ _ _ _ hC1) Tryz.underlying27 rfl (by kernel_rfl) rfl ?_
   exact ⟨by rw [HR.out]; rfl, below_setRow hbw (by omega) _⟩
/-- the items of a node-/
def itsOf (T : Tree) (l : Path) : List It := match T l with | some nd => nd.its | none => []
/-- the texts are short, the nodes' items few-/
structure Few (T : Tree) : Prop where
 its : ∀ p nd, T p = some nd → nd.its.length ≤ 1073741823
theorem labs_max (d : ByteArray) (hd : d.size ≤ 1073741822) : (∀ s ∈ labs d, s.length ≤ maxLen) ∧ (labs d).length ≤ 1073741824 := by
 refine ⟨fun s hs => ?_, ?_⟩
 ·have := labs_sizes d s hs
  unfold maxLen
  omega
 ·have := labs_length d
  omega
end Go.Proofs.YtkklcpmbgfgcmaaGreat
