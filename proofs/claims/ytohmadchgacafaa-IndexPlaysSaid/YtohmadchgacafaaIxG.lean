/- The index: an item found by its key. Conditions: as in the text. -/
import Derived.Test.YtohmadchgacafaaIxF
set_option linter.unusedSimpArgs false
set_option linter.unusedVariables false
set_option linter.unnecessarySimpa false
namespace Go.Proofs.Ytohmadchgacafaa
open Go.RowKit
variable {lo : Nat}
theorem ret_cell_tmpI {P : Program} {fn : Func} {R : Ending → World → Prop} {a : Act} {w : World} (p u : Tmp) (ty t : TypeId) (g : Nat) (c : Array Value) (d : TypeDesc) (v : Value) (hr : fn.results = #[.cell p ty, .tmp u])
 (hp : a.tmps.getD p undef = .pointer (some ⟨g, 0, none⟩)) (hv : a.tmps.getD u undef = v) (hg : w.heap[g]? = some (.cells c t (0, 0))) (hu : P.underlying ty = some d) (hd : d.isRow = true) (hi : (P.info? ty).map (·.size) = some c.size)
 (hde : a.defers = []) (hR : R (.returned (.tuple #[.agg c, v])) w) : bodyPost P fn R .ret a w := by
 have h1 : w.rangeAt g 0 c.toList := fun j v hv => by
  rw [Nat.zero_add]
  simp only [World.cell?, hg]
  simpa using hv
 have h2 := run_loadVar_mid (P := P) w g 0 ty c.toList d h1 hu hd (by simpa using hi)
 refine bodyPost_ret ?_ hde hR
 rw [results_cell_tmp hr, hp, hv]
 simp [asAddr, h2, Result.andThen]
/-- what is found of a key -/
abbrev findV (l : List It) (k : Key) : Value := .tuple #[itVal ((getI l k).getD it0), .bool (getI l k).isSome]
def RetFind (l : List It) (k : Key) (w : World) (e : Ending) (w' : World) : Prop := e = .returned (findV l k) ∧ Below w.heap.size w w'
set_option maxRecDepth 100000 in
set_option maxHeartbeats 2000000 in
theorem ixFindNil_any (k : Key) (w : World) : Calls Try.prog 32 #[.pointer none, keyV k] w (RetFind [] k w) := by
 go_enter Try.func32, Try.ntmps32
 go_upto_region 2 with fail
 refine wp_name (fun W hW => ?_)
 have hb : Below w.heap.size w W := by rw [hW.out]; go_grown
 obtain ⟨C, hC, hCs⟩ : ∃ C : Array Value, W.heap[w.heap.size + 1]? = some (.cells C 38 (0, 0)) ∧ C.size = 11 := ⟨_, by rw [hW.out]; exact heap_last1 w _ _, rfl⟩
 clear hW
 go_wp2_with (refine wpList_store_row rfl 38 _ _ rfl (w.heap.size + 1) (itCells it0).toArray rfl (by kernel_rfl) 38 C hC (by kernel_rfl) hCs (by kernel_rfl) ?_)
 refine ret_cell_tmpI 4 5 38 38 (w.heap.size + 1) (itCells it0).toArray _ _ rfl rfl rfl (setRow_heap _ _ _ _ _ _ hC) Try.underlying38 rfl (by kernel_rfl) rfl ?_
 exact ⟨rfl, below_setRow hb (by omega) _⟩
set_option maxRecDepth 100000 in
set_option maxHeartbeats 2000000 in
theorem ixFind_any (b : Nat) (a : Option Addr) (cap : Nat) (l : List It) (k : Key) (w : World) (hl : l.length ≤ 1073741824) (h0 : w.cell? ⟨b, 0, none⟩ = some (.slice a l.length cap)) (hin : ItsIn w a l) :
 Calls Try.prog 32 #[ndVal b, keyV k] w (RetFind l k w) := by
 have hmf : ∀ (fn : Fn) (first cap : Array Value) (w : World), (Instr.makeFunc fn first cap).run Try.prog w = .ok (.func fn first cap) w := fun _ _ _ _ => rfl
 go_enter Try.func32, Try.ntmps32
 go_upto_region 3 with fail
 refine wp_name (fun W hW => ?_)
 have hb : Below w.heap.size w W := by rw [hW.out]; go_grown
 have hK : KeyAt W w.heap.size k := by rw [hW.out]; exact ⟨by go_simp, by go_simp, by go_simp⟩
 obtain ⟨C, hC, hCs⟩ : ∃ C : Array Value, W.heap[w.heap.size + 1]? = some (.cells C 38 (0, 0)) ∧ C.size = 11 := ⟨_, by rw [hW.out]; exact heap_last1 w _ _, rfl⟩
 have h0W := kept hb h0
 have hinW := hin.kept hb
 have HI := Lib.hid (idxFunc_any a cap l k w.heap.size W hl hinW hK)
 clear hW h0 hin hK
 cases hg : getI l k with
 | none =>
   rw [idxI_none hg] at HI
   have HR : Hid (findV l k = .tuple #[itVal it0, .bool false]) := by unfold Hid findV; rw [hg]; rfl
   clear hg
   go_upto_region 5 with (go_at_call 45; refine HI.out.mono ?_; rintro e w1 ⟨rfl, hb1⟩)
   have hbw : Below w.heap.size w w1 := below2 hb hb1
   have hC1 := (hb1.block _ (Array.getElem?_eq_some_iff.1 hC).1).trans hC
   clear hb1 hC hb h0W hinW HI
   go_wp2_with (refine wpList_store_row rfl 38 _ _ rfl (w.heap.size + 1) (itCells it0).toArray rfl (by kernel_rfl) 38 C hC1 (by kernel_rfl) hCs (by kernel_rfl) ?_)
   refine ret_cell_tmpI 4 5 38 38 (w.heap.size + 1) (itCells it0).toArray _ _ rfl rfl rfl (setRow_heap _ _ _ _ _ _ hC1) Try.underlying38 rfl (by kernel_rfl) rfl ?_
   exact ⟨by rw [HR.out]; rfl, below_setRow hbw (by omega) _⟩
 | some y =>
   obtain ⟨i, hi, hil, hiy⟩ := idxI_some hg
   rw [hi] at HI
   have HR : Hid (findV l k = .tuple #[itVal y, .bool true]) := by unfold Hid findV; rw [hg]; rfl
   obtain ⟨A, off, rfl, hr⟩ := ItsIn.at hinW hil
   rw [hiy] at hr
   have hbi : i ≤ 1073741824 := by omega
   clear hg hi hiy
   go_upto_region 6 with (go_at_call 45; refine HI.out.mono ?_; rintro e w1 ⟨rfl, hb1⟩)
   have hbw : Below w.heap.size w w1 := below2 hb hb1
   have hC1 := (hb1.block _ (Array.getElem?_eq_some_iff.1 hC).1).trans hC
   have h01 := kept hb1 h0W
   have hr1 := rangeAt_kept hr hb1
   clear hb1 hC hb h0W hinW HI hr
   go_wp2_with (first
    | ((with_reducible refine wpList_load_to 38 _ A (off + i * 11) (itCells y) (itVal y) rfl _ Try.underlying38 rfl (by kernel_rfl) hr1 ?_ rfl ?_); exact rfl)
    | (refine wpList_store_row rfl 38 _ _ rfl (w.heap.size + 1) (itCells y).toArray rfl rfl 38 C hC1 (by kernel_rfl) hCs (by kernel_rfl) ?_))
   refine ret_cell_tmpI 4 5 38 38 (w.heap.size + 1) (itCells y).toArray _ _ rfl rfl rfl (setRow_heap _ _ _ _ _ _ hC1) Try.underlying38 rfl (by kernel_rfl) rfl ?_
   exact ⟨by rw [HR.out]; rfl, below_setRow hbw (by omega) _⟩
/-- the items of a node-/
def itsOf (T : Tree) (l : Path) : List It := match T l with | some nd => nd.its | none => []
/-- the texts are short, the nodes' items few-/
structure Few (T : Tree) : Prop where
 its : ∀ p nd, T p = some nd → nd.its.length ≤ 1073741823
theorem labs_max (d : ByteArray) (hd : d.size ≤ 1073741822) : (∀ s ∈ labs d, s.length ≤ maxLen) ∧ (labs d).length ≤ 1073741824 := by
 refine ⟨fun s hs => ?_, ?_⟩
 ·have := labs_sizes d s hs
  unfold maxLen
  omega
 ·have := labs_length d
  omega
theorem nodeFind_any {w : World} {x : Nat} {n : Int} {B : Nat} {T : Tree} (h : TrIn lo w x n B T) (hf : Few T) (l : Path) (k : Key) : Calls Try.prog 32 #[downVal T l, keyV k] w (RetFind (itsOf T l) k w) := by
 unfold downVal itsOf
 cases hT : T l with
 | none => exact ixFindNil_any k w
 | some nd =>
   obtain ⟨a, cap, h1, h2, h3⟩ := (h.nodes l nd hT).its
   exact ixFind_any nd.b a cap nd.its k w (by have := hf.its l nd hT; omega) h1 h3
set_option maxRecDepth 100000 in
set_option maxHeartbeats 4000000 in
theorem ixGet_any {w : World} {x : Nat} {n : Int} {B : Nat} {T : Tree} (h : TrIn lo w x n B T) (hf : Few T) (k : Key) (hd : k.domain.size ≤ 1073741822) :
 Calls Try.prog 21 #[ndVal x, keyV k] w (RetFind (itsOf T (labs k.domain)) k w) := by
 obtain ⟨hl1, hl2⟩ := labs_max k.domain hd
 have HL := Lib.hid (fun (X : World) => labels_any k.domain X (by omega))
 have HD := Lib.hid (fun (X : World) (a : Option Addr) (cap : Nat) (h : TrIn lo X x n B T) (hin : StrsIn X a (labs k.domain)) => downNo_any h (labs k.domain) a cap hl1 hl2 hin)
 have HF := Lib.hid (fun (X : World) (h : TrIn lo X x n B T) => nodeFind_any h hf (labs k.domain) k)
 generalize labs k.domain = l at *
 go_enter Try.func21, Try.ntmps21
 go_upto_region 3 with fail
 refine wp_name (fun W hW => ?_)
 have hb : Below w.heap.size w W := by rw [hW.out]; go_grown
 have k0 : W.drew.cell? ⟨w.heap.size, 0, none⟩ = some (.string k.name) := by rw [hW.out]; go_simp
 have k1 : W.drew.cell? ⟨w.heap.size, 1, none⟩ = some (.string k.domain) := by rw [hW.out]; go_simp
 have k2 : W.drew.cell? ⟨w.heap.size, 2, none⟩ = some (.string k.path) := by rw [hW.out]; go_simp
 obtain ⟨C, hC, hCs⟩ : ∃ C : Array Value, W.drew.heap[w.heap.size + 1]? = some (.cells C 38 (0, 0)) ∧ C.size = 11 := ⟨_, by rw [hW.out]; exact heap_last1 w _ _, rfl⟩
 have hbD : Below w.heap.size w W.drew := hb.drew
 have hBW : w.heap.size + 1 ≤ W.drew.heap.size := Nat.le_of_lt (Array.getElem?_eq_some_iff.1 hC).1
 have HT : Hid (∀ X, Below (w.heap.size + 1) W.drew X → TrIn lo X x n B T) := Lib.hid fun X hX => h.kept (hbD.trans (hX.mono (Nat.le_succ _)))
 have HB := Lib.hid hbD
 clear hW h hb hbD
 refine wp_region_noPanic ?_
 refine wp_region_held_drew (S := fun W' => Below (w.heap.size + 1) W.drew W') (by kernel_rfl) (Below.refl _ _) (fun hHeld => ?_)
 refine wpAnyH_take (i := 0) (oi := ⟨some 9, _, _, _, _, _⟩) (v := ?_) rfl (by kernel_rfl) (by kernel_rfl) (by kernel_rfl) (fun _ _ _ h => h) (Or.inl ⟨by rfl, ?_⟩) (by assumption) ?_
 case refine_2 => (intro Xw hSw; have sk0 := (hSw.cell (p := ⟨w.heap.size, 0, none⟩) (by simp only [] <;> omega)).trans k0; have sk1 := (hSw.cell (p := ⟨w.heap.size, 1, none⟩) (by simp only [] <;> omega)).trans k1; have sk2 := (hSw.cell (p := ⟨w.heap.size, 2, none⟩) (by simp only [] <;> omega)).trans k2; go_simp; try with_reducible rfl)
 try simp only [pA, pB, pC, pD, pE]
 refine wpAnyH_take (i := 1) (oi := ⟨some 10, _, _, _, _, _⟩) (v := ?_) rfl (by kernel_rfl) (by kernel_rfl) (by kernel_rfl) (fun _ _ _ h => h) (Or.inl ⟨by rfl, ?_⟩) (by assumption) ?_
 case refine_2 => (intro Xw hSw; have sk0 := (hSw.cell (p := ⟨w.heap.size, 0, none⟩) (by simp only [] <;> omega)).trans k0; have sk1 := (hSw.cell (p := ⟨w.heap.size, 1, none⟩) (by simp only [] <;> omega)).trans k1; have sk2 := (hSw.cell (p := ⟨w.heap.size, 2, none⟩) (by simp only [] <;> omega)).trans k2; go_simp; try with_reducible rfl)
 try simp only [pA, pB, pC, pD, pE]
 refine wpAnyH_take (i := 2) (oi := ⟨some 11, _, _, _, _, _⟩) (v := ?_) rfl (by kernel_rfl) (by kernel_rfl) (by kernel_rfl) (fun _ _ _ h => h) (Or.inl ⟨by rfl, ?_⟩) (by assumption) ?_
 case refine_2 => (intro Xw hSw; have sk0 := (hSw.cell (p := ⟨w.heap.size, 0, none⟩) (by simp only [] <;> omega)).trans k0; have sk1 := (hSw.cell (p := ⟨w.heap.size, 1, none⟩) (by simp only [] <;> omega)).trans k1; have sk2 := (hSw.cell (p := ⟨w.heap.size, 2, none⟩) (by simp only [] <;> omega)).trans k2; go_simp; try with_reducible rfl)
 try simp only [pA, pB, pC, pD, pE]
 refine wpAnyH_take (i := 3) (oi := ⟨some 12, _, _, _, _, _⟩) (v := ?_) rfl (by kernel_rfl) (by kernel_rfl) (by kernel_rfl) (fun _ _ _ h => h) (Or.inl ⟨by rfl, ?_⟩) (by assumption) ?_
 case refine_2 => (intro Xw hSw; have sk0 := (hSw.cell (p := ⟨w.heap.size, 0, none⟩) (by simp only [] <;> omega)).trans k0; have sk1 := (hSw.cell (p := ⟨w.heap.size, 1, none⟩) (by simp only [] <;> omega)).trans k1; have sk2 := (hSw.cell (p := ⟨w.heap.size, 2, none⟩) (by simp only [] <;> omega)).trans k2; go_simp; try with_reducible rfl)
 try simp only [pA, pB, pC, pD, pE]
 refine wpAnyH_take (i := 4) (oi := ⟨some 13, _, _, _, _, _⟩) (v := ?_) rfl (by kernel_rfl) (by kernel_rfl) (by kernel_rfl) (fun _ _ _ h => h) (Or.inl ⟨by rfl, ?_⟩) (by assumption) ?_
 case refine_2 => (intro Xw hSw; have sk0 := (hSw.cell (p := ⟨w.heap.size, 0, none⟩) (by simp only [] <;> omega)).trans k0; have sk1 := (hSw.cell (p := ⟨w.heap.size, 1, none⟩) (by simp only [] <;> omega)).trans k1; have sk2 := (hSw.cell (p := ⟨w.heap.size, 2, none⟩) (by simp only [] <;> omega)).trans k2; go_simp; try with_reducible rfl)
 try simp only [pA, pB, pC, pD, pE]
 refine wpAnyH_take (i := 7) (oi := ⟨some 16, _, _, _, _, _⟩) (v := ?_) rfl (by kernel_rfl) (by kernel_rfl) (by kernel_rfl) (fun _ _ _ h => h) (Or.inl ⟨by rfl, ?_⟩) (by assumption) ?_
 case refine_2 => (intro Xw hSw; have sk0 := (hSw.cell (p := ⟨w.heap.size, 0, none⟩) (by simp only [] <;> omega)).trans k0; have sk1 := (hSw.cell (p := ⟨w.heap.size, 1, none⟩) (by simp only [] <;> omega)).trans k1; have sk2 := (hSw.cell (p := ⟨w.heap.size, 2, none⟩) (by simp only [] <;> omega)).trans k2; go_simp; try with_reducible rfl)
 try simp only [pA, pB, pC, pD, pE]
 refine wpAnyH_ready (rs := [5]) (by kernel_rfl) (by simp) ?_
 refine AllReadyH.cons (o := ⟨some 14, _, _, _, _, _⟩) rfl (fun K hK => ?_) AllReadyH.nil
 go_simp
 go_at_call 26
 (refine (HL.out _).mono ?_)
 rintro e w1 ⟨v, rfl, hown, hb1⟩
 go_simp
 have hNext := hHeld.trans (hb1.mono (Nat.le_trans hBW hHeld.size))
 refine hK.out _ _ hNext (fun hHeld2 => ?_)
 clear hK K hHeld
 have hHeld := hNext
 clear hHeld2 hNext
 try simp only [pA, pB, pC, pD, pE]
 obtain ⟨al, cl, rfl, hst, _⟩ := strs_own hown
 replace hC := (hb1.block _ (Array.getElem?_eq_some_iff.1 hC).1).trans hC
 clear hown hb1
 refine wpAnyH_ready (rs := [6]) (by kernel_rfl) (by simp) ?_
 refine AllReadyH.cons (o := ⟨some 15, _, _, _, _, _⟩) rfl (fun K hK => ?_) AllReadyH.nil
 go_simp
 go_at_call 25
 (refine (HD.out _ al cl (HT.out _ hHeld) hst).mono ?_)
 rintro e w1 ⟨rfl, rfl⟩
 go_simp
 have hNext := hHeld
 refine hK.out _ _ hNext (fun hHeld2 => ?_)
 clear hK K hHeld
 have hHeld := hNext
 clear hHeld2 hNext
 try simp only [pA, pB, pC, pD, pE]
 clear hst
 refine wpAnyH_ready (rs := [8]) (by kernel_rfl) (by simp) ?_
 refine AllReadyH.cons (o := ⟨some 17, _, _, _, _, _⟩) rfl (fun K hK => ?_) AllReadyH.nil
 go_simp
 go_at_call 32
 (refine (HF.out _ (HT.out _ hHeld)).mono ?_)
 rintro e w1 ⟨rfl, hb3⟩
 go_simp
 have hNext := hHeld.trans (hb3.mono (Nat.le_trans hBW hHeld.size))
 refine hK.out _ _ hNext (fun hHeld2 => ?_)
 clear hK K hHeld
 have hHeld := hNext
 clear hHeld2 hNext
 try simp only [pA, pB, pC, pD, pE]
 replace hC := (hb3.block _ (Array.getElem?_eq_some_iff.1 hC).1).trans hC
 clear hb3
 refine wpAnyH_take (i := 9) (oi := ⟨some 18, _, _, _, _, _⟩) (v := ?_) rfl (by kernel_rfl) (by kernel_rfl) (by kernel_rfl) (fun _ _ _ h => h) (Or.inl ⟨by rfl, ?_⟩) (by assumption) ?_
 case refine_2 => (intro Xw hSw; have sk0 := (hSw.cell (p := ⟨w.heap.size, 0, none⟩) (by simp only [] <;> omega)).trans k0; have sk1 := (hSw.cell (p := ⟨w.heap.size, 1, none⟩) (by simp only [] <;> omega)).trans k1; have sk2 := (hSw.cell (p := ⟨w.heap.size, 2, none⟩) (by simp only [] <;> omega)).trans k2; go_simp; try with_reducible rfl)
 try simp only [pA, pB, pC, pD, pE]
 refine wpAnyH_take (i := 10) (oi := ⟨some 19, _, _, _, _, _⟩) (v := ?_) rfl (by kernel_rfl) (by kernel_rfl) (by kernel_rfl) (fun _ _ _ h => h) (Or.inl ⟨by rfl, ?_⟩) (by assumption) ?_
 case refine_2 => (intro Xw hSw; have sk0 := (hSw.cell (p := ⟨w.heap.size, 0, none⟩) (by simp only [] <;> omega)).trans k0; have sk1 := (hSw.cell (p := ⟨w.heap.size, 1, none⟩) (by simp only [] <;> omega)).trans k1; have sk2 := (hSw.cell (p := ⟨w.heap.size, 2, none⟩) (by simp only [] <;> omega)).trans k2; go_simp; try with_reducible rfl)
 try simp only [pA, pB, pC, pD, pE]
 refine wpAnyH_ready (rs := [11]) (by kernel_rfl) (by simp) ?_
 refine AllReadyH.cons (o := ⟨none, _, _, _, _, _⟩) rfl (fun K hK => ?_) AllReadyH.nil
 refine step_store_row (by rfl) 38 _ _ rfl (w.heap.size + 1) (itCells ((getI (itsOf T l) k).getD it0)).toArray rfl rfl 38 C hC (by kernel_rfl) hCs (by kernel_rfl) ?_
 have hNext := below_setRow hHeld (Nat.le_refl _) (itCells ((getI (itsOf T l) k).getD it0)).toArray
 refine hK.out _ _ hNext (fun hHeld2 => ?_)
 clear hK K hHeld
 have hHeld := hNext
 clear hHeld2 hNext
 try simp only [pA, pB, pC, pD, pE]
 refine wpAnyH_take (i := 12) (oi := ⟨some 5, _, _, _, _, _⟩) (v := ?_) rfl (by kernel_rfl) (by kernel_rfl) (by kernel_rfl) (fun _ _ _ h => h) (Or.inl ⟨by rfl, ?_⟩) (by assumption) ?_
 case refine_2 => (intro Xw hSw; have sk0 := (hSw.cell (p := ⟨w.heap.size, 0, none⟩) (by simp only [] <;> omega)).trans k0; have sk1 := (hSw.cell (p := ⟨w.heap.size, 1, none⟩) (by simp only [] <;> omega)).trans k1; have sk2 := (hSw.cell (p := ⟨w.heap.size, 2, none⟩) (by simp only [] <;> omega)).trans k2; go_simp; try with_reducible rfl)
 try simp only [pA, pB, pC, pD, pE]
 refine wpAnyH_done (by kernel_rfl) ?_ _
 refine NoPanic.normal ?_
 go_wp2
 refine ret_cell_tmpI 4 5 38 38 (w.heap.size + 1) (itCells ((getI (itsOf T l) k).getD it0)).toArray _ _ rfl rfl rfl (setRow_heap _ _ _ _ _ _ hC) Try.underlying38 rfl (by kernel_rfl) rfl ?_
 exact ⟨rfl, HB.out.trans (hHeld.mono (Nat.le_succ _))⟩
end Go.Proofs.Ytohmadchgacafaa
