/- The index: an item put. Conditions: as in the text. -/
import Derived.Test.YtkklcpmbgfgcmaaGreatIxG
import Derived.Test.YtkklcpmbgfgcmaaGreatLast
set_option linter.unusedSimpArgs false
set_option linter.unusedVariables false
set_option linter.unnecessarySimpa false
namespace Go.Proofs.YtkklcpmbgfgcmaaGreat
open Go.RowKit
variable {lo : Nat}
theorem item_notIx {w : World} {b : Nat} {c : Array Value} {f : Nat × Nat} (h : w.heap[b]? = some (.cells c 27 f)) : ¬ IxB lo w b := by
 rintro ⟨_, (⟨c0, c1, g, hx⟩ | ⟨c0, c1, c2, g, hx⟩ | ⟨es, cl, hx⟩)⟩
 ·rw [h] at hx; simp at hx
 ·rw [h] at hx; simp at hx
 ·rw [h] at hx; cases hx
theorem ix_notIx {w w' : World} {b : Nat} (hf : IxFr lo w w') (hb : b < w.heap.size) (h : ¬ IxB lo w b) : ¬ IxB lo w' b := fun g => h (IxB.back hf hb g)
theorem range_ix {w w' : World} {b o : Nat} {cs : List Value} (h : w.rangeAt b o cs) (hf : IxFr lo w w') (hn : ¬ IxB lo w b) : w'.rangeAt b o cs := fun j v hv => hf.kept (h j v hv) hn
theorem grown_its {T T' : Tree} {l : Path} {c : Nd} (h : Grown T T' l) (hc : T' l = some c) : c.its = itsOf T l := by
 unfold itsOf
 cases hT : T l with
 | some i =>
   obtain ⟨i', h1, _, h2⟩ := h.old l i hT
   rw [hc] at h1
   cases h1
   exact h2
 | none => exact (h.new l c hc hT).2
theorem upd_its (T : Tree) (l : Path) (c : Nd) (its : List It) : (T.upd l (some { c with its := its })).its = setA T.its l its := by
 funext q
 unfold Tree.its Tree.upd setA
 split
 ·rfl
 ·rfl
def RetPut (lo : Nat) (x : Nat) (n : Int) (B : Nat) (T : Tree) (y : It) (l : Path) (L : List It) (w : World) (e : Ending) (w' : World) : Prop :=
 ∃ T', e = .returned (.bool (getI L y.key).isNone) ∧ TrIn lo w' x (if (getI L y.key).isNone then n + 1 else n) (B + l.length) T' ∧ T'.its = setA (grownA T.its l) l (putI L y) ∧ IxFr lo w w'
set_option maxRecDepth 100000 in
set_option maxHeartbeats 4000000 in
theorem ixPut_any {w : World} {x : Nat} {n : Int} {B : Nat} {T : Tree} (h : TrIn lo w x n B T) (hf : Few T) (y : It) (hd : y.key.domain.size ≤ 1073741822) (hs : ∀ p, SrtI (itsOf T p)) (hB : B ≤ 1073741824) (hn : 0 ≤ n ∧ n ≤ 1073741824) :
 Calls Tryz.prog 9 #[ndVal x, itVal y] w (RetPut lo x n B T y (labs y.key.domain) (itsOf T (labs y.key.domain)) w) := by
 obtain ⟨hl1, hl2⟩ := labs_max y.key.domain hd
 have HL := Lib.hid (fun (X : World) => labels_any y.key.domain X (by omega))
 have HD := Lib.hid (fun (X : World) (a : Option Addr) (cap : Nat) (h : TrIn lo X x n B T) (hin : StrsIn X a (labs y.key.domain)) => downGrow_any h (labs y.key.domain) a cap hl1 hl2 hB hin)
 have HS := Lib.hid hs
 have HFL : Hid ((itsOf T (labs y.key.domain)).length ≤ 1073741823) := by
  unfold Hid itsOf
  cases hT : T (labs y.key.domain) with
  | none => simp
  | some nd => exact hf.its _ _ hT
 generalize labs y.key.domain = l at *
 obtain ⟨L, hLe⟩ : ∃ L, L = itsOf T l := ⟨_, rfl⟩
 have HLS : Hid (SrtI L) := by rw [hLe]; exact HS.out l
 have HLE := Lib.hid hLe
 rw [← hLe] at HFL ⊢
 have hwr : IntKind.i64.wrap (n + 1) = n + 1 := IntWalk.i64_in _ (by omega)
 clear hLe hl1 hl2 hs HS
 go_enter Tryz.func9, Tryz.ntmps9
 go_upto_region 3 with fail
 refine wp_name (fun W hW => ?_)
 have hb : Below w.heap.size w W := by rw [hW.out]; go_grown
 have hbox : W.drew.heap[w.heap.size]? = some (.cells (itCells y).toArray 27 (0, 0)) := by rw [hW.out]; exact heap_last0 w _
 have hry : W.drew.rangeAt w.heap.size 0 (itCells y) := by rw [hW.out]; exact itCells_box y w _
 have k1 : W.drew.cell? ⟨w.heap.size, 1, none⟩ = some (.string y.key.domain) := hry 1 _ rfl
 have hnIx : ¬ IxB lo W.drew w.heap.size := item_notIx hbox
 have hbD : Below w.heap.size w W.drew := hb.drew
 have HFR0 : Hid (IxFr lo w W.drew) := Lib.hid (IxFr.of_below hbD)
 have hTW := h.kept hbD
 have hzl : w.heap.size < W.drew.heap.size := (Array.getElem?_eq_some_iff.1 hbox).1
 clear hW h hb hbD hbox
 refine wp_region_noPanic ?_
 refine wp_region_held_drew (S := fun W' => IxFr lo W.drew W') (by kernel_rfl) (Fr.refl _ _) (fun hHeld => ?_)
 refine wpAnyH_take (i := 0) (oi := ⟨some 10, _, _, _, _, _⟩) (v := ?_) rfl (by kernel_rfl) (by kernel_rfl) (by kernel_rfl) (fun _ _ _ h => h) (Or.inl ⟨by rfl, ?_⟩) (by assumption) ?_
 case refine_2 => (intro Xw hSw; have sk1 := hSw.kept k1 hnIx; go_simp; try with_reducible rfl)
 try simp only [pA, pB, pC, pD, pE]
 refine wpAnyH_take (i := 1) (oi := ⟨some 11, _, _, _, _, _⟩) (v := ?_) rfl (by kernel_rfl) (by kernel_rfl) (by kernel_rfl) (fun _ _ _ h => h) (Or.inl ⟨by rfl, ?_⟩) (by assumption) ?_
 case refine_2 => (intro Xw hSw; have sk1 := hSw.kept k1 hnIx; go_simp; try with_reducible rfl)
 try simp only [pA, pB, pC, pD, pE]
 refine wpAnyH_take (i := 2) (oi := ⟨some 12, _, _, _, _, _⟩) (v := ?_) rfl (by kernel_rfl) (by kernel_rfl) (by kernel_rfl) (fun _ _ _ h => h) (Or.inl ⟨by rfl, ?_⟩) (by assumption) ?_
 case refine_2 => (intro Xw hSw; have sk1 := hSw.kept k1 hnIx; go_simp; try with_reducible rfl)
 try simp only [pA, pB, pC, pD, pE]
 refine wpAnyH_take (i := 3) (oi := ⟨some 13, _, _, _, _, _⟩) (v := ?_) rfl (by kernel_rfl) (by kernel_rfl) (by kernel_rfl) (fun _ _ _ h => h) (Or.inl ⟨by rfl, ?_⟩) (by assumption) ?_
 case refine_2 => (intro Xw hSw; have sk1 := hSw.kept k1 hnIx; go_simp; try with_reducible rfl)
 try simp only [pA, pB, pC, pD, pE]
 refine wpAnyH_take (i := 4) (oi := ⟨some 14, _, _, _, _, _⟩) (v := ?_) rfl (by kernel_rfl) (by kernel_rfl) (by kernel_rfl) (fun _ _ _ h => h) (Or.inl ⟨by rfl, ?_⟩) (by assumption) ?_
 case refine_2 => (intro Xw hSw; have sk1 := hSw.kept k1 hnIx; go_simp; try with_reducible rfl)
 try simp only [pA, pB, pC, pD, pE]
 refine wpAnyH_take (i := 5) (oi := ⟨some 15, _, _, _, _, _⟩) (v := ?_) rfl (by kernel_rfl) (by kernel_rfl) (by kernel_rfl) (fun _ _ _ h => h) (Or.inl ⟨by rfl, ?_⟩) (by assumption) ?_
 case refine_2 => (intro Xw hSw; have sk1 := hSw.kept k1 hnIx; go_simp; try with_reducible rfl)
 try simp only [pA, pB, pC, pD, pE]
 refine wpAnyH_ready (rs := [6]) (by kernel_rfl) (by simp) ?_
 refine AllReadyH.cons (o := ⟨some 16, _, _, _, _, _⟩) rfl (fun K hK => ?_) AllReadyH.nil
 go_simp
 go_at_call 17
 (refine (HL.out _).mono ?_)
 rintro e w1 ⟨v, rfl, hown, hb1⟩
 go_simp
 have hNext := hHeld.trans (IxFr.of_below hb1)
 refine hK.out _ _ hNext (fun hHeld2 => ?_)
 clear hK K hHeld
 have hHeld := hNext
 clear hHeld2 hNext
 try simp only [pA, pB, pC, pD, pE]
 obtain ⟨al, cl, rfl, hst, _⟩ := strs_own hown
 have hTW1 := hTW.kept hb1
 clear hown hb1 hTW
 refine wpAnyH_ready (rs := [7]) (by kernel_rfl) (by simp) ?_
 refine AllReadyH.cons (o := ⟨some 17, _, _, _, _, _⟩) rfl (fun K hK => ?_) AllReadyH.nil
 go_simp
 go_at_call 16
 (refine (HD.out _ al cl hTW1 hst).mono ?_)
 rintro e w1 ⟨T1, c, rfl, hT1, htr1, hgr1, hfr1⟩
 go_simp
 have hNext := hHeld.trans hfr1
 refine hK.out _ _ hNext (fun hHeld2 => ?_)
 clear hK K hHeld
 have hHeld := hNext
 clear hHeld2 hNext
 try simp only [pA, pB, pC, pD, pE]
 clear hst hTW1
 refine wpAnyH_take (i := 8) (oi := ⟨some 5, _, _, _, _, _⟩) (v := ?_) rfl (by kernel_rfl) (by kernel_rfl) (by kernel_rfl) (fun _ _ _ h => h) (Or.inl ⟨by rfl, ?_⟩) (by assumption) ?_
 case refine_2 => (intro Xw hSw; have sk1 := hSw.kept k1 hnIx; go_simp; try with_reducible rfl)
 try simp only [pA, pB, pC, pD, pE]
 refine wpAnyH_done (by kernel_rfl) ?_ _
 refine NoPanic.normal ?_
 have hry1 := range_ix hry hHeld hnIx
 have hn1 := ix_notIx hHeld hzl hnIx
 have hz1 : w.heap.size < w1.heap.size := Nat.lt_of_lt_of_le hzl hHeld.size
 have HFR1 : Hid (IxFr lo w w1) := Lib.hid (HFR0.out.trans hHeld)
 have HCI : Hid (c.its = L) := by unfold Hid; rw [HLE.out]; exact grown_its hgr1 hT1
 have HG := Lib.hid hgr1
 have HT1 := Lib.hid hT1
 clear hry hnIx hHeld hzl hgr1 k1 hfr1 hT1
 have hrk1 := range_keyCs hry1
 obtain ⟨a, cap, hc0, hcap, hin⟩ := (htr1.nodes _ _ HT1.out).its
 rw [HCI.out] at hc0 hcap hin
 have HFI := Lib.hid (ixFind_any c.b a cap L y.key w1 (by have := HFL.out; omega) hc0 hin)
 clear hcap
 go_upto_region 5 with (first
  | ((with_reducible refine wpList_load_to 23 _ w.heap.size 0 (keyCs y.key) (keyV y.key) rfl _ Tryz.underlying23 rfl (by kernel_rfl) hrk1 ?_ rfl ?_); exact rfl)
  | (go_at_call 18; refine HFI.out.mono ?_; rintro e w2 ⟨rfl, hb2⟩)
  | (refine wpList_store_new 27 _ _ _ (itCells ((getI L y.key).getD it0)).toArray rfl rfl (by kernel_rfl) rfl (by kernel_rfl) ?_))
 refine wp_name (fun V hV => ?_)
 have hbV : Below w1.heap.size w1 V.drew := by rw [hV.out]; exact (hb2.alloc hb2.size _).drew
 have hryV := rangeAt_kept hry1 hbV
 have htrV := htr1.kept hbV
 have hnV : ¬ IxB lo V.drew w.heap.size := ix_notIx (IxFr.of_below hbV) hz1 hn1
 have q0 := kept hbV hc0
 have hinV := hin.kept hbV
 have HFRV : Hid (IxFr lo w V.drew) := Lib.hid (HFR1.out.trans (IxFr.of_below hbV))
 have hcn : c.b < V.drew.heap.size := htrV.lt HT1.out
 have HVP := Lib.hid (fun (X : World) (h : ItsIn X a L) => vPut_any a cap L y X HFL.out HLS.out h)
 have hlk : IxB lo V.drew c.b := htrV.ixb HT1.out
 clear hV hbV hry1 htr1 hn1 hc0 hin hrk1 HFI hb2 hz1
 refine wp_region_noPanic ?_
 refine wp_region_late (fun W' => Below V.drew.heap.size V.drew W') [9] (by kernel_rfl) ?_
 have hHeld := Below.refl V.drew.heap.size V.drew
 refine wpAnyL_take (i := 0) (oi := ⟨some 25, _, _, _, _, _⟩) (v := ?_) rfl (by kernel_rfl) (by kernel_rfl) (by kernel_rfl) (by kernel_rfl) (by kernel_rfl) (fun _ _ _ h => h) (Or.inl ⟨by rfl, ?_⟩) (by assumption) ?_
 case refine_2 => (intro Xw hSw; have sq0 := kept hSw q0; go_simp; try with_reducible rfl)
 try simp only [pA, pB, pC, pD, pE]
 refine wpAnyL_take (i := 1) (oi := ⟨some 26, _, _, _, _, _⟩) (v := ?_) rfl (by kernel_rfl) (by kernel_rfl) (by kernel_rfl) (by kernel_rfl) (by kernel_rfl) (fun _ _ _ h => h) (Or.inl ⟨by rfl, ?_⟩) (by assumption) ?_
 case refine_2 => (intro Xw hSw; have sq0 := kept hSw q0; go_simp; try with_reducible rfl)
 try simp only [pA, pB, pC, pD, pE]
 refine wpAnyL_take (i := 2) (oi := ⟨some 27, _, _, _, _, _⟩) (v := ?_) rfl (by kernel_rfl) (by kernel_rfl) (by kernel_rfl) (by kernel_rfl) (by kernel_rfl) (fun _ _ _ h => h) (Or.inl ⟨by rfl, ?_⟩) (by assumption) ?_
 case refine_2 => (intro Xw hSw; have sq0 := kept hSw q0; go_simp; try with_reducible rfl)
 try simp only [pA, pB, pC, pD, pE]
 refine wpAnyL_take (i := 3) (oi := ⟨some 28, _, _, _, _, _⟩) (v := ?_) rfl (by kernel_rfl) (by kernel_rfl) (by kernel_rfl) (by kernel_rfl) (by kernel_rfl) (fun _ _ _ h => h) (Or.inl ⟨by rfl, ?_⟩) (by assumption) ?_
 case refine_2 => (intro Xw hSw; have sq0 := kept hSw q0; go_simp; try with_reducible rfl)
 try simp only [pA, pB, pC, pD, pE]
 refine wpAnyL_take (i := 4) (oi := ⟨some 29, _, _, _, _, _⟩) (v := ?_) rfl (by kernel_rfl) (by kernel_rfl) (by kernel_rfl) (by kernel_rfl) (by kernel_rfl) (fun _ _ _ h => h) (Or.inl ⟨by rfl, ?_⟩) (by assumption) ?_
 case refine_2 => (intro Xw hSw; have sq0 := kept hSw q0; go_simp; try with_reducible rfl)
 try simp only [pA, pB, pC, pD, pE]
 refine wpAnyL_take (i := 5) (oi := ⟨some 30, _, _, _, _, _⟩) rfl (by kernel_rfl) (by kernel_rfl) (by kernel_rfl) (by kernel_rfl) (by kernel_rfl) (fun _ _ _ h => h) (yieldsIf_load_mid (by rfl) 27 _ rfl w.heap.size 0 rfl (itCells y) _ (fun X hX => rangeAt_kept hryV hX) Tryz.underlying27 rfl (by kernel_rfl)) (by assumption) ?_
 try simp only [pA, pB, pC, pD, pE]
 refine wpAnyL_one (i := 6) (o := ⟨some 31, _, _, _, _, _⟩) (by kernel_rfl) rfl ?_
 intro K hK
 go_simp
 go_at_call 20
 (refine (HVP.out _ (hinV.kept hHeld)).mono ?_)
 rintro e w1 ⟨v, rfl, hown, hb1⟩
 go_simp
 have hNext := hHeld.trans (hb1.mono hHeld.size)
 refine hK.out _ _ (Or.inr hNext) ?_
 clear hK K hHeld
 have hHeld := hNext
 clear hNext
 try simp only [pA, pB, pC, pD, pE]
 refine wpAnyL_take (i := 7) (oi := ⟨some 32, _, _, _, _, _⟩) (v := ?_) rfl (by kernel_rfl) (by kernel_rfl) (by kernel_rfl) (by kernel_rfl) (by kernel_rfl) (fun _ _ _ h => h) (Or.inl ⟨by rfl, ?_⟩) (by assumption) ?_
 case refine_2 => (intro Xw hSw; have sq0 := kept hSw q0; go_simp; try with_reducible rfl)
 try simp only [pA, pB, pC, pD, pE]
 refine wpAnyL_take (i := 8) (oi := ⟨some 33, _, _, _, _, _⟩) (v := ?_) rfl (by kernel_rfl) (by kernel_rfl) (by kernel_rfl) (by kernel_rfl) (by kernel_rfl) (fun _ _ _ h => h) (Or.inl ⟨by rfl, ?_⟩) (by assumption) ?_
 case refine_2 => (intro Xw hSw; have sq0 := kept hSw q0; go_simp; try with_reducible rfl)
 try simp only [pA, pB, pC, pD, pE]
 obtain ⟨a3, c3, rfl, hin3, hcap3⟩ := own_cellsIn hown
 have htr3 := htrV.kept hHeld
 have p0 := kept hHeld q0
 have p1 := htr3.unfrozen HT1.out 0
 have hSI := Lib.hid (htr3.setIts HT1.out hcap3 hin3)
 have HFR3 : Hid (IxFr lo w w1) := Lib.hid (HFRV.out.trans (IxFr.of_below hHeld))
 clear hown hb1 hin3 htr3 hcap3
 refine wpAnyL_one (i := 9) (o := ⟨none, _, _, _, _, _⟩) (by kernel_rfl) rfl ?_
 intro K hK
 go_simp
 refine hK.out _ _ (Or.inl (by kernel_rfl)) ?_
 clear hK K
 try simp only [pA, pB, pC, pD, pE]
 refine wpAnyL_done (by kernel_rfl) ?_ _
 refine NoPanic.normal ?_
 clear hHeld q0 p0 p1 hinV hryV hnV htrV hcn HVP hlk
 obtain ⟨hSI1, hSI2⟩ := hSI.out
 have HITS : Hid ((T1.upd l (some { c with its := putI L y })).its = setA (grownA T.its l) l (putI L y)) := by
  unfold Hid
  rw [upd_its, HG.out.its]
 have HFR4 : Hid (IxFr lo w _) := Lib.hid (HFR3.out.trans hSI2)
 obtain ⟨W4, hW4⟩ : ∃ W4, W4 = w1.setCell ⟨c.b, 0, none⟩ (Value.slice a3 (putI L y).length c3) := ⟨_, rfl⟩
 rw [← hW4] at hSI1 hSI2 HFR4 ⊢
 obtain ⟨i0, i1⟩ := hSI1.idx_cell
 have HN := Lib.hid (hSI1.setN (n + 1))
 have HTR := Lib.hid hSI1
 clear hSI hSI1 hSI2 hW4
 have hsome : (getI L y.key).isSome = !(getI L y.key).isNone := by cases getI L y.key <;> rfl
 rw [hsome]
 clear hsome
 cases hnb : (getI L y.key).isNone with
 | true =>
   have HNB := Lib.hid hnb
   clear hnb
   go_wp2
   all_goals
    go_ret
    exact ⟨_, by rw [HNB.out]; rfl, by rw [HNB.out, if_pos rfl]; exact HN.out.1, HITS.out, HFR4.out.trans HN.out.2⟩
 | false =>
   have HNB := Lib.hid hnb
   clear hnb
   go_wp2
   all_goals
    go_ret
    exact ⟨_, by rw [HNB.out]; rfl, by rw [HNB.out, if_neg (by decide)]; exact HTR.out, HITS.out, HFR4.out⟩
end Go.Proofs.YtkklcpmbgfgcmaaGreat
