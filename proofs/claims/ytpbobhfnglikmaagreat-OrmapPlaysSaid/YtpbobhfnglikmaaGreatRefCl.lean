/- The reference's map: Clear. Conditions: as in the text. -/
import Derived.Test.YtpbobhfnglikmaaGreatRefFb
set_option linter.unusedSimpArgs false
set_option linter.unusedVariables false
set_option linter.unnecessarySimpa false
namespace Go.Proofs.YtpbobhfnglikmaaGreat
open Go.RowKit
set_option maxRecDepth 100000 in
set_option maxHeartbeats 8000000 in
theorem rClear21_any (x : RMIt) (d : Dot) (w : World) (hK : x.K.length ≤ 4096) (hc : x.ctx.length ≤ 1048576) (hdl : x.dead.length ≤ 1048576) (hI : RMIn w x) :
 Calls Tryz.prog 22 #[rmVal x, dotVal d] w (RetRF (rmCl x.rm d) (rmClOk x.rm d) w) := by
 obtain ⟨ac, ctx, cc, aK, K, cK, ad, dead, cd⟩ := x
 simp only at hK hc hdl
 show Calls Tryz.prog 22 #[.agg #[.slice ac ctx.length cc, .slice aK K.length cK, .slice ad dead.length cd], dotVal d] w (RetRF (rmCl ⟨ctx, evsOf K, dead⟩ d) (rmClOk ⟨ctx, evsOf K, dead⟩ d) w)
 obtain ⟨i0, hi, hz0, hz1, hz2⟩ := info_parts Tryz.infoDot
 have hFi := fun (X : World) (h : EvsIn X aK K) => rFindE_any aK cK K d X (by omega) h
 have hHd := fun (X : World) (h : DotsIn X ad dead) => rHasD_any ad cd dead d X (by omega) h
 have hHm := fun (X : World) (h : DotsIn X ac ctx) => rHasM_any ac cc ctx d X (by omega) h
 have hun : rmClOk (⟨ctx, evsOf K, dead⟩ : RM) d = (decide (d ∈ dead) && (hasM ctx d && !((evsOf K).any fun e => decide (e.dot = d)))) := rfl
 by_cases hdd : d ∈ dead
 case neg =>
  have HF : Hid (rmClOk (⟨ctx, evsOf K, dead⟩ : RM) d = false) := by rw [Hid, hun, decide_eq_false hdd]; rfl
  rw [decide_eq_false hdd] at hHd
  have HHd := Lib.hid hHd
  clear hHd hun hdd hFi hHm
  go_enter Tryz.func22, Tryz.ntmps22
  go_upto_region 1 with fail
  refine wp_name (fun V hV => ?_)
  have hb0 : Below w.heap.size w V := by rw [hV.out]; go_grown
  have x0 : V.cell? ⟨w.heap.size, 0, none⟩ = some (.slice ac ctx.length cc) := by rw [hV.out]; go_simp
  have x1 : V.cell? ⟨w.heap.size, 1, none⟩ = some (.slice aK K.length cK) := by rw [hV.out]; go_simp
  have x2 : V.cell? ⟨w.heap.size, 2, none⟩ = some (.slice ad dead.length cd) := by rw [hV.out]; go_simp
  have D0 : V.cell? ⟨w.heap.size + 1, 0, none⟩ = some (.int .i64 d.a.dev) := by rw [hV.out]; go_simp
  have D1 : V.cell? ⟨w.heap.size + 1, 1, none⟩ = some (.int .i64 d.a.inc) := by rw [hV.out]; go_simp
  have D2 : V.cell? ⟨w.heap.size + 1, 2, none⟩ = some (.int .i64 d.seq) := by rw [hV.out]; go_simp
  have hZ : V.heap[w.heap.size + 1 + 1]? = some (.cells #[.slice none 0 0, .slice none 0 0, .slice none 0 0] 31 (0, 0)) := by
   rw [hV.out]
   have h9 := heap_last0 ((w.alloc (.cells #[.slice ac ctx.length cc, .slice aK K.length cK, .slice ad dead.length cd] 31)).alloc (.cells #[.int .i64 d.a.dev, .int .i64 d.a.inc, .int .i64 d.seq] 35)) (.cells #[.slice none 0 0, .slice none 0 0, .slice none 0 0] 31)
   rwa [show ((w.alloc (.cells #[.slice ac ctx.length cc, .slice aK K.length cK, .slice ad dead.length cd] 31)).alloc (.cells #[.int .i64 d.a.dev, .int .i64 d.a.inc, .int .i64 d.seq] 35)).heap.size = w.heap.size + 1 + 1 by simp] at h9
  have hI0 := hI.keep hb0
  clear hV hI
  go_upto_region 2 with (go_at_call 82; (with_reducible refine (HHd.out _ hI0.dead).mono ?_); rintro v w1 ⟨rfl, hb1⟩; replace x0 := kept hb1 x0; replace x1 := kept hb1 x1; replace x2 := kept hb1 x2; replace D0 := kept hb1 D0; replace D1 := kept hb1 D1; replace D2 := kept hb1 D2; replace hZ := (hb1.block _ (lt_of_block hZ)).trans hZ; replace hI0 := hI0.keep hb1; replace hb0 := hb0.trans (hb1.mono hb0.size); clear hb1)
  go_wp2_with (refine wpList_store_row rfl 31 _ _ rfl (w.heap.size + 1 + 1) #[.slice ac ctx.length cc, .slice aK K.length cK, .slice ad dead.length cd] rfl rfl 31 #[.slice none 0 0, .slice none 0 0, .slice none 0 0] hZ (by kernel_rfl) rfl (by kernel_rfl) ?_)
  refine ret_cell_tmp 4 5 31 31 (w.heap.size + 1 + 1) #[.slice ac ctx.length cc, .slice aK K.length cK, .slice ad dead.length cd] _ _ rfl rfl rfl (setRow_heap _ _ _ _ _ _ hZ) Tryz.underlying31 rfl (by kernel_rfl) rfl ?_
  exact ⟨⟨ac, ctx, cc, aK, K, cK, ad, dead, cd⟩, by rw [HF.out]; rfl, set3_in hI0 (slz hZ), by unfold rmCl; rw [HF.out]; rfl, below_setRow hb0 (by omega) _⟩
 rw [decide_eq_true hdd] at hHd
 have HHd := Lib.hid hHd
 rw [decide_eq_true hdd, Bool.true_and] at hun
 clear hHd hdd
 cases hhm : hasM ctx d with
 | false =>
   have HF : Hid (rmClOk (⟨ctx, evsOf K, dead⟩ : RM) d = false) := by rw [Hid, hun, hhm]; rfl
   rw [hhm] at hHm
   have HHm := Lib.hid hHm
   clear hHm hun hhm hFi
   go_enter Tryz.func22, Tryz.ntmps22
   go_upto_region 1 with fail
   refine wp_name (fun V hV => ?_)
   have hb0 : Below w.heap.size w V := by rw [hV.out]; go_grown
   have x0 : V.cell? ⟨w.heap.size, 0, none⟩ = some (.slice ac ctx.length cc) := by rw [hV.out]; go_simp
   have x1 : V.cell? ⟨w.heap.size, 1, none⟩ = some (.slice aK K.length cK) := by rw [hV.out]; go_simp
   have x2 : V.cell? ⟨w.heap.size, 2, none⟩ = some (.slice ad dead.length cd) := by rw [hV.out]; go_simp
   have D0 : V.cell? ⟨w.heap.size + 1, 0, none⟩ = some (.int .i64 d.a.dev) := by rw [hV.out]; go_simp
   have D1 : V.cell? ⟨w.heap.size + 1, 1, none⟩ = some (.int .i64 d.a.inc) := by rw [hV.out]; go_simp
   have D2 : V.cell? ⟨w.heap.size + 1, 2, none⟩ = some (.int .i64 d.seq) := by rw [hV.out]; go_simp
   have hZ : V.heap[w.heap.size + 1 + 1]? = some (.cells #[.slice none 0 0, .slice none 0 0, .slice none 0 0] 31 (0, 0)) := by
    rw [hV.out]
    have h9 := heap_last0 ((w.alloc (.cells #[.slice ac ctx.length cc, .slice aK K.length cK, .slice ad dead.length cd] 31)).alloc (.cells #[.int .i64 d.a.dev, .int .i64 d.a.inc, .int .i64 d.seq] 35)) (.cells #[.slice none 0 0, .slice none 0 0, .slice none 0 0] 31)
    rwa [show ((w.alloc (.cells #[.slice ac ctx.length cc, .slice aK K.length cK, .slice ad dead.length cd] 31)).alloc (.cells #[.int .i64 d.a.dev, .int .i64 d.a.inc, .int .i64 d.seq] 35)).heap.size = w.heap.size + 1 + 1 by simp] at h9
   have hI0 := hI.keep hb0
   clear hV hI
   go_upto_region 2 with (first | (go_at_call 82; (with_reducible refine (HHd.out _ hI0.dead).mono ?_); rintro v w1 ⟨rfl, hb1⟩; replace x0 := kept hb1 x0; replace x1 := kept hb1 x1; replace x2 := kept hb1 x2; replace D0 := kept hb1 D0; replace D1 := kept hb1 D1; replace D2 := kept hb1 D2; replace hZ := (hb1.block _ (lt_of_block hZ)).trans hZ; replace hI0 := hI0.keep hb1; replace hb0 := hb0.trans (hb1.mono hb0.size); clear hb1) | (go_at_call 37; (with_reducible refine (HHm.out _ hI0.ctx).mono ?_); rintro v w2 ⟨rfl, hb2⟩; replace x0 := kept hb2 x0; replace x1 := kept hb2 x1; replace x2 := kept hb2 x2; replace D0 := kept hb2 D0; replace D1 := kept hb2 D1; replace D2 := kept hb2 D2; replace hZ := (hb2.block _ (lt_of_block hZ)).trans hZ; replace hI0 := hI0.keep hb2; replace hb0 := hb0.trans (hb2.mono hb0.size); clear hb2))
   go_wp2_with (refine wpList_store_row rfl 31 _ _ rfl (w.heap.size + 1 + 1) #[.slice ac ctx.length cc, .slice aK K.length cK, .slice ad dead.length cd] rfl rfl 31 #[.slice none 0 0, .slice none 0 0, .slice none 0 0] hZ (by kernel_rfl) rfl (by kernel_rfl) ?_)
   refine ret_cell_tmp 4 5 31 31 (w.heap.size + 1 + 1) #[.slice ac ctx.length cc, .slice aK K.length cK, .slice ad dead.length cd] _ _ rfl rfl rfl (setRow_heap _ _ _ _ _ _ hZ) Tryz.underlying31 rfl (by kernel_rfl) rfl ?_
   exact ⟨⟨ac, ctx, cc, aK, K, cK, ad, dead, cd⟩, by rw [HF.out]; rfl, set3_in hI0 (slz hZ), by unfold rmCl; rw [HF.out]; rfl, below_setRow hb0 (by omega) _⟩
 | true =>
   rw [hhm] at hHm hun
   have HHm := Lib.hid hHm
   rw [Bool.true_and] at hun
   clear hHm hhm
   rcases findAt_cases K 0 d with ⟨h1, h2⟩ | ⟨j, hj, h1, h2⟩
   case inr =>
    have HF : Hid (rmClOk (⟨ctx, evsOf K, dead⟩ : RM) d = false) := by
        rw [Hid, hun, Bool.not_eq_false', List.any_eq_true]
        exact ⟨K[j].1, List.mem_map_of_mem (List.getElem_mem hj), decide_eq_true h2⟩
    rw [h1, Nat.zero_add] at hFi
    have HFi := Lib.hid hFi
    have hji : decide ((0 : Int) ≤ (j : Int)) = true := decide_eq_true (by omega)
    clear hFi hun h1 h2
    go_enter Tryz.func22, Tryz.ntmps22
    go_upto_region 1 with fail
    refine wp_name (fun V hV => ?_)
    have hb0 : Below w.heap.size w V := by rw [hV.out]; go_grown
    have x0 : V.cell? ⟨w.heap.size, 0, none⟩ = some (.slice ac ctx.length cc) := by rw [hV.out]; go_simp
    have x1 : V.cell? ⟨w.heap.size, 1, none⟩ = some (.slice aK K.length cK) := by rw [hV.out]; go_simp
    have x2 : V.cell? ⟨w.heap.size, 2, none⟩ = some (.slice ad dead.length cd) := by rw [hV.out]; go_simp
    have D0 : V.cell? ⟨w.heap.size + 1, 0, none⟩ = some (.int .i64 d.a.dev) := by rw [hV.out]; go_simp
    have D1 : V.cell? ⟨w.heap.size + 1, 1, none⟩ = some (.int .i64 d.a.inc) := by rw [hV.out]; go_simp
    have D2 : V.cell? ⟨w.heap.size + 1, 2, none⟩ = some (.int .i64 d.seq) := by rw [hV.out]; go_simp
    have hZ : V.heap[w.heap.size + 1 + 1]? = some (.cells #[.slice none 0 0, .slice none 0 0, .slice none 0 0] 31 (0, 0)) := by
        rw [hV.out]
        have h9 := heap_last0 ((w.alloc (.cells #[.slice ac ctx.length cc, .slice aK K.length cK, .slice ad dead.length cd] 31)).alloc (.cells #[.int .i64 d.a.dev, .int .i64 d.a.inc, .int .i64 d.seq] 35)) (.cells #[.slice none 0 0, .slice none 0 0, .slice none 0 0] 31)
        rwa [show ((w.alloc (.cells #[.slice ac ctx.length cc, .slice aK K.length cK, .slice ad dead.length cd] 31)).alloc (.cells #[.int .i64 d.a.dev, .int .i64 d.a.inc, .int .i64 d.seq] 35)).heap.size = w.heap.size + 1 + 1 by simp] at h9
    have hI0 := hI.keep hb0
    clear hV hI
    go_upto_region 2 with (first | (go_at_call 82; (with_reducible refine (HHd.out _ hI0.dead).mono ?_); rintro v w1 ⟨rfl, hb1⟩; replace x0 := kept hb1 x0; replace x1 := kept hb1 x1; replace x2 := kept hb1 x2; replace D0 := kept hb1 D0; replace D1 := kept hb1 D1; replace D2 := kept hb1 D2; replace hZ := (hb1.block _ (lt_of_block hZ)).trans hZ; replace hI0 := hI0.keep hb1; replace hb0 := hb0.trans (hb1.mono hb0.size); clear hb1) | (go_at_call 37; (with_reducible refine (HHm.out _ hI0.ctx).mono ?_); rintro v w2 ⟨rfl, hb2⟩; replace x0 := kept hb2 x0; replace x1 := kept hb2 x1; replace x2 := kept hb2 x2; replace D0 := kept hb2 D0; replace D1 := kept hb2 D1; replace D2 := kept hb2 D2; replace hZ := (hb2.block _ (lt_of_block hZ)).trans hZ; replace hI0 := hI0.keep hb2; replace hb0 := hb0.trans (hb2.mono hb0.size); clear hb2) | (go_at_call 81; (with_reducible refine (HFi.out _ hI0.kept).mono ?_); rintro v w3 ⟨rfl, hb3⟩; replace x0 := kept hb3 x0; replace x1 := kept hb3 x1; replace x2 := kept hb3 x2; replace D0 := kept hb3 D0; replace D1 := kept hb3 D1; replace D2 := kept hb3 D2; replace hZ := (hb3.block _ (lt_of_block hZ)).trans hZ; replace hI0 := hI0.keep hb3; replace hb0 := hb0.trans (hb3.mono hb0.size); clear hb3))
    go_wp2_with (refine wpList_store_row rfl 31 _ _ rfl (w.heap.size + 1 + 1) #[.slice ac ctx.length cc, .slice aK K.length cK, .slice ad dead.length cd] rfl rfl 31 #[.slice none 0 0, .slice none 0 0, .slice none 0 0] hZ (by kernel_rfl) rfl (by kernel_rfl) ?_)
    refine ret_cell_tmp 4 5 31 31 (w.heap.size + 1 + 1) #[.slice ac ctx.length cc, .slice aK K.length cK, .slice ad dead.length cd] _ _ rfl rfl rfl (setRow_heap _ _ _ _ _ _ hZ) Tryz.underlying31 rfl (by kernel_rfl) rfl ?_
    exact ⟨⟨ac, ctx, cc, aK, K, cK, ad, dead, cd⟩, by rw [HF.out]; rfl, set3_in hI0 (slz hZ), by unfold rmCl; rw [HF.out]; rfl, below_setRow hb0 (by omega) _⟩
   have HF : Hid (rmClOk (⟨ctx, evsOf K, dead⟩ : RM) d = true) := by
    rw [Hid, hun, Bool.not_eq_true', List.any_eq_false]
    intro e he h9
    obtain ⟨z, hz, rfl⟩ := List.mem_map.1 he
    exact h2 z hz (by simpa using h9)
   rw [h1] at hFi
   have HFi := Lib.hid hFi
   clear hFi hun h1 h2
   go_enter Tryz.func22, Tryz.ntmps22
   go_upto_region 1 with fail
   refine wp_name (fun V hV => ?_)
   have hb0 : Below w.heap.size w V := by rw [hV.out]; go_grown
   have x0 : V.cell? ⟨w.heap.size, 0, none⟩ = some (.slice ac ctx.length cc) := by rw [hV.out]; go_simp
   have x1 : V.cell? ⟨w.heap.size, 1, none⟩ = some (.slice aK K.length cK) := by rw [hV.out]; go_simp
   have x2 : V.cell? ⟨w.heap.size, 2, none⟩ = some (.slice ad dead.length cd) := by rw [hV.out]; go_simp
   have D0 : V.cell? ⟨w.heap.size + 1, 0, none⟩ = some (.int .i64 d.a.dev) := by rw [hV.out]; go_simp
   have D1 : V.cell? ⟨w.heap.size + 1, 1, none⟩ = some (.int .i64 d.a.inc) := by rw [hV.out]; go_simp
   have D2 : V.cell? ⟨w.heap.size + 1, 2, none⟩ = some (.int .i64 d.seq) := by rw [hV.out]; go_simp
   have hZ : V.heap[w.heap.size + 1 + 1]? = some (.cells #[.slice none 0 0, .slice none 0 0, .slice none 0 0] 31 (0, 0)) := by
    rw [hV.out]
    have h9 := heap_last0 ((w.alloc (.cells #[.slice ac ctx.length cc, .slice aK K.length cK, .slice ad dead.length cd] 31)).alloc (.cells #[.int .i64 d.a.dev, .int .i64 d.a.inc, .int .i64 d.seq] 35)) (.cells #[.slice none 0 0, .slice none 0 0, .slice none 0 0] 31)
    rwa [show ((w.alloc (.cells #[.slice ac ctx.length cc, .slice aK K.length cK, .slice ad dead.length cd] 31)).alloc (.cells #[.int .i64 d.a.dev, .int .i64 d.a.inc, .int .i64 d.seq] 35)).heap.size = w.heap.size + 1 + 1 by simp] at h9
   have hI0 := hI.keep hb0
   clear hV hI
   go_upto_region 3 with (first | (go_at_call 82; (with_reducible refine (HHd.out _ hI0.dead).mono ?_); rintro v w1 ⟨rfl, hb1⟩; replace x0 := kept hb1 x0; replace x1 := kept hb1 x1; replace x2 := kept hb1 x2; replace D0 := kept hb1 D0; replace D1 := kept hb1 D1; replace D2 := kept hb1 D2; replace hZ := (hb1.block _ (lt_of_block hZ)).trans hZ; replace hI0 := hI0.keep hb1; replace hb0 := hb0.trans (hb1.mono hb0.size); clear hb1) | (go_at_call 37; (with_reducible refine (HHm.out _ hI0.ctx).mono ?_); rintro v w2 ⟨rfl, hb2⟩; replace x0 := kept hb2 x0; replace x1 := kept hb2 x1; replace x2 := kept hb2 x2; replace D0 := kept hb2 D0; replace D1 := kept hb2 D1; replace D2 := kept hb2 D2; replace hZ := (hb2.block _ (lt_of_block hZ)).trans hZ; replace hI0 := hI0.keep hb2; replace hb0 := hb0.trans (hb2.mono hb0.size); clear hb2) | (go_at_call 81; (with_reducible refine (HFi.out _ hI0.kept).mono ?_); rintro v w3 ⟨rfl, hb3⟩; replace x0 := kept hb3 x0; replace x1 := kept hb3 x1; replace x2 := kept hb3 x2; replace D0 := kept hb3 D0; replace D1 := kept hb3 D1; replace D2 := kept hb3 D2; replace hZ := (hb3.block _ (lt_of_block hZ)).trans hZ; replace hI0 := hI0.keep hb3; replace hb0 := hb0.trans (hb3.mono hb0.size); clear hb3))
   have hown0 : (w3.alloc (Obj.cells #[] 35)).ownsRow w3.heap.size 35 3 (.slice (some ⟨w3.heap.size, 0, none⟩) 0 0) 0 [] := World.ownsRow_made _ _ _ (Nat.le_refl _) (by decide) rfl
   have hal : Below w3.heap.size w3 (w3.alloc (Obj.cells #[] 35)) := (Below.refl _ _).alloc (Nat.le_refl _) _
   go_wp2
   go_loopw [6, 7] (fun u i wr => ∃ k : Nat, i = .int .i64 k ∧ k ≤ dead.length ∧ wr.ownsRow w3.heap.size 35 3 u ((dead.take k).filter (fun x => decide (x ≠ d))).length (dotVals ((dead.take k).filter (fun x => decide (x ≠ d)))) ∧ Below w3.heap.size w3 wr) (fun _ i _ => dead.length - (intOf i).toNat)
   case atStart => exact ⟨0, rfl, Nat.zero_le _, hown0, hal⟩
   case round =>
    obtain ⟨k, rfl, hk, hown, hB⟩ := hrel
    clear hown0 hal
    obtain ⟨u, hu⟩ : ∃ u, u = u6 := ⟨_, rfl⟩
    rw [← hu] at hown ⊢
    clear hu
    have hzr := hB.size
    replace x0 := kept hB x0
    replace x1 := kept hB x1
    replace x2 := kept hB x2
    replace D0 := kept hB D0
    replace D1 := kept hB D1
    replace D2 := kept hB D2
    have hfl : ((dead.take k).filter (fun x => decide (x ≠ d))).length ≤ 1048576 := by
        have h1 := List.length_filter_le (fun x => decide (x ≠ d)) (dead.take k)
        rw [List.length_take] at h1
        omega
    by_cases hlt : k < dead.length
    ·obtain ⟨A, off, haD, c0, c1, c2⟩ := (hI0.dead.kept hB).at hlt
     simp only at haD c0 c1 c2
     subst haD
     have HT : Hid (dead.take (k + 1) = dead.take k ++ [dead[k]]) := by
      unfold Hid
      rw [List.take_add_one, List.getElem?_eq_getElem hlt]
      rfl
     have HLT := Lib.hid hlt
     have hkl : k ≤ 1048576 := by omega
     generalize dead[k] = x at *
     have hEq := fun (W : World) => eqDot W 9997 x d
     have hm := noGuardDot
     by_cases hxd : x = d
     ·rw [decide_eq_true hxd] at hEq
      have HS : Hid ((dead.take (k + 1)).filter (fun x => decide (x ≠ d)) = (dead.take k).filter (fun x => decide (x ≠ d))) := by
       unfold Hid
       rw [HT.out, List.filter_append]
       simp [hxd]
      clear hxd
      go_upto_region 7 with fail
      refine wp_region_after (by kernel_rfl) (by kernel_rfl) (fun WA hWA => ?_)
      have hbA : Below wr.heap.size wr WA := by rw [hWA.out]; go_grown
      have px2 : ∀ i : After WA, i.w.cell? ⟨w.heap.size, 2, none⟩ = some (.slice (some ⟨A, off, none⟩) dead.length cd) := fun i => i.cell (kept hbA x2)
      have pD0 : ∀ i : After WA, i.w.cell? ⟨w.heap.size + 1, 0, none⟩ = some (.int .i64 d.a.dev) := fun i => i.cell (kept hbA D0)
      have pD1 : ∀ i : After WA, i.w.cell? ⟨w.heap.size + 1, 1, none⟩ = some (.int .i64 d.a.inc) := fun i => i.cell (kept hbA D1)
      have pD2 : ∀ i : After WA, i.w.cell? ⟨w.heap.size + 1, 2, none⟩ = some (.int .i64 d.seq) := fun i => i.cell (kept hbA D2)
      have pc0 : ∀ i : After WA, i.w.cell? ⟨A, off + k * 3, none⟩ = some (.int .i64 x.a.dev) := fun i => i.cell (kept hbA c0)
      have pc1 : ∀ i : After WA, i.w.cell? ⟨A, off + k * 3 + 1, none⟩ = some (.int .i64 x.a.inc) := fun i => i.cell (kept hbA c1)
      have pc2 : ∀ i : After WA, i.w.cell? ⟨A, off + k * 3 + 2, none⟩ = some (.int .i64 x.seq) := fun i => i.cell (kept hbA c2)
      clear hWA
      go_big_quiet_step (fail)
      go_big_quiet_step (fail)
      go_big_quiet_step (fail)
      go_big_quiet_step (fail)
      go_big_quiet_step (fail)
      go_big_quiet_step (fail)
      go_big_quiet_step (fail)
      refine wpQuiet_nil ?_
      rintro _ ⟨i, rfl⟩
      have hiA := i.h
      generalize i.w = wq at hiA ⊢
      have hbY : Below wr.heap.size wr wq := below2 hbA hiA
      clear hbA hiA px2 pD0 pD1 pD2 pc0 pc1 pc2
      have HZ : Hid (wq.ownsRow w3.heap.size 35 3 u ((dead.take (k + 1)).filter (fun x => decide (x ≠ d))).length (dotVals ((dead.take (k + 1)).filter (fun x => decide (x ≠ d)))) ∧ Below w3.heap.size w3 wq) := by
       rw [HS.out]
       exact ⟨ownsRow_below hown hbY, hB.trans (hbY.mono hzr)⟩
      clear hown hbY hB x0 x1 x2 D0 D1 D2 c0 c1 c2 hEq hm
      go_wp2
      go_roundw
      case rel => exact ⟨k + 1, by go_num, HLT.out, HZ.out.1, HZ.out.2⟩
      case measure => have := HLT.out; simp [intOf] <;> omega
     ·rw [decide_eq_false hxd] at hEq
      have HS : Hid ((dead.take (k + 1)).filter (fun x => decide (x ≠ d)) = (dead.take k).filter (fun x => decide (x ≠ d)) ++ [x]) := by
       unfold Hid
       rw [HT.out, List.filter_append]
       simp [hxd]
      clear hxd
      go_upto_region 7 with fail
      refine wp_region_after (by kernel_rfl) (by kernel_rfl) (fun WA hWA => ?_)
      have hbA : Below wr.heap.size wr WA := by rw [hWA.out]; go_grown
      have px2 : ∀ i : After WA, i.w.cell? ⟨w.heap.size, 2, none⟩ = some (.slice (some ⟨A, off, none⟩) dead.length cd) := fun i => i.cell (kept hbA x2)
      have pD0 : ∀ i : After WA, i.w.cell? ⟨w.heap.size + 1, 0, none⟩ = some (.int .i64 d.a.dev) := fun i => i.cell (kept hbA D0)
      have pD1 : ∀ i : After WA, i.w.cell? ⟨w.heap.size + 1, 1, none⟩ = some (.int .i64 d.a.inc) := fun i => i.cell (kept hbA D1)
      have pD2 : ∀ i : After WA, i.w.cell? ⟨w.heap.size + 1, 2, none⟩ = some (.int .i64 d.seq) := fun i => i.cell (kept hbA D2)
      have pc0 : ∀ i : After WA, i.w.cell? ⟨A, off + k * 3, none⟩ = some (.int .i64 x.a.dev) := fun i => i.cell (kept hbA c0)
      have pc1 : ∀ i : After WA, i.w.cell? ⟨A, off + k * 3 + 1, none⟩ = some (.int .i64 x.a.inc) := fun i => i.cell (kept hbA c1)
      have pc2 : ∀ i : After WA, i.w.cell? ⟨A, off + k * 3 + 2, none⟩ = some (.int .i64 x.seq) := fun i => i.cell (kept hbA c2)
      clear hWA
      go_big_quiet_step (fail)
      go_big_quiet_step (fail)
      go_big_quiet_step (fail)
      go_big_quiet_step (fail)
      go_big_quiet_step (fail)
      go_big_quiet_step (fail)
      go_big_quiet_step (fail)
      refine wpQuiet_nil ?_
      rintro _ ⟨i, rfl⟩
      have hiA := i.h
      generalize i.w = wq at hiA ⊢
      have hbY : Below wr.heap.size wr wq := below2 hbA hiA
      clear hbA hiA px2 pD0 pD1 pD2 pc0 pc1 pc2
      have hown5 := ownsRow_below hown hbY
      replace hB := hB.trans (hbY.mono hzr)
      replace x2 := kept hbY x2
      replace c0 := kept hbY c0
      replace c1 := kept hbY c1
      replace c2 := kept hbY c2
      have hz5 := hB.size
      clear hown hbY x0 x1 D0 D1 D2 hEq hm
      go_wp2_with (at_builtin; refine wpList_append_own _ rfl _ _ 29 rfl w3.heap.size 35 i0 (.agg #[.int .i64 0, .int .i64 0, .int .i64 0]) 3 24 Tryz.underlying29 hi hz0 hz1 hz2 rfl (by decide) _ _ _ rfl (hown5.alloc _) ⟨wq.heap.size, 0, none⟩ 1 1 [.int .i64 x.a.dev, .int .i64 x.a.inc, .int .i64 x.seq] rfl rfl (cells_new _ _ _) (by simp [Value.oneCell']) (by unfold maxLen; omega) (by omega) (by simp; omega) ?_; intro v2 w4 hown4 hgrow _)
      have hal4 : Below wq.heap.size wq (wq.alloc (.cells #[.int .i64 x.a.dev, .int .i64 x.a.inc, .int .i64 x.seq] 35)) := (Below.refl _ _).alloc (Nat.le_refl _) _
      have HZ : Hid (w4.ownsRow w3.heap.size 35 3 v2 ((dead.take (k + 1)).filter (fun x => decide (x ≠ d))).length (dotVals ((dead.take (k + 1)).filter (fun x => decide (x ≠ d)))) ∧ Below w3.heap.size w3 w4) := by
       refine ⟨?_, (hB.trans (hal4.mono hz5)).grown hgrow (Nat.le_trans hz5 hal4.size) (fun j hj => (hown5.lt j hj).1)⟩
       rw [HS.out, dotVals_snoc, List.length_append]
       exact hown4
      clear hown4 hgrow hal4 hown5 hB x2 c0 c1 c2
      go_wp2
      go_roundw
      case rel => exact ⟨k + 1, by go_num, HLT.out, HZ.out.1, HZ.out.2⟩
      case measure => have := HLT.out; simp [intOf] <;> omega
    ·obtain rfl : k = dead.length := by omega
     rw [List.take_length] at hown
     generalize hfe : dead.filter (fun x => decide (x ≠ d)) = fl at hown
     have HFE := Lib.hid hfe
     clear hfe
     obtain ⟨a2, c2, rfl, hd2⟩ := own_dots hown
     obtain ⟨a3, c3, he3, _, hc3⟩ := own_cellsIn hown
     obtain ⟨rfl, rfl⟩ := slice_inj he3
     replace hZ := (hB.block _ (lt_of_block hZ)).trans hZ
     have hI9 : RMIn wr ⟨ac, ctx, cc, aK, K, cK, a2, fl, c2⟩ := ⟨hI0.ctx.kept hB, hI0.kept.kept hB, hd2, hI0.cc, hI0.cK, hc3⟩
     have hb9 := hb0.trans (hB.mono hb0.size)
     have HQ := Lib.hid (And.intro hI9 hb9)
     clear hI9 hb9 hd2 he3 hc3 hown hB hI0 hb0
     go_wp2_with (refine wpList_store_row rfl 31 _ _ rfl (w.heap.size + 1 + 1) #[.slice ac ctx.length cc, .slice aK K.length cK, .slice a2 fl.length c2] rfl rfl 31 #[.slice none 0 0, .slice none 0 0, .slice none 0 0] hZ (by kernel_rfl) rfl (by kernel_rfl) ?_)
     refine ret_cell_tmp 4 5 31 31 (w.heap.size + 1 + 1) #[.slice ac ctx.length cc, .slice aK K.length cK, .slice a2 fl.length c2] _ _ rfl rfl rfl (setRow_heap _ _ _ _ _ _ hZ) Tryz.underlying31 rfl (by kernel_rfl) rfl ?_
     exact ⟨⟨ac, ctx, cc, aK, K, cK, a2, fl, c2⟩, by rw [HF.out]; rfl, set3_in HQ.out.1 (slz hZ), by unfold rmCl; rw [HF.out, if_pos rfl, ← HFE.out]; rfl, below_setRow HQ.out.2 (by omega) _⟩
end Go.Proofs.YtpbobhfnglikmaaGreat
