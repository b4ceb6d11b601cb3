/- The law IndexNils. Conditions: as in the text. -/
import Derived.Test.YtkklcpmbgfgcmaaGreatIxNp
import Derived.Test.YtkklcpmbgfgcmaaGreatIxNa
set_option linter.unusedSimpArgs false
set_option linter.unusedVariables false
set_option linter.unnecessarySimpa false
namespace Go.Proofs.YtkklcpmbgfgcmaaGreat
open Go.RowKit
theorem byI_one (y : It) : byI [y] = [y] := by
 unfold byI
 simp [putI]
theorem domI_one (y : It) : domI [y] y.key.domain = [y] := by simp [domI]
/-- an item with another value -/
def itO (y : It) : It := ⟨y.key, { y.ck with value := ⟨#[111, 116, 104, 101, 114]⟩ }⟩
theorem rqRange (w : World) (h p : ByteArray) (s t : Bool) (ty : TypeId) : (w.alloc (.cells #[.string h, .string p, .bool s, .bool t] ty)).rangeAt w.heap.size 0 [.string h, .string p, .bool s, .bool t] := by
 intro j v hv
 rw [Nat.zero_add, World.cell?_alloc_new]
 exact (by simpa using hv)
theorem below_setCell {w : World} {B o : Nat} {v : Value} : Below B w (w.setCell ⟨B, o, none⟩ v) := by
 refine ⟨rfl, rfl, rfl, by simp [World.setCell], fun k hk => ?_⟩
 simp only [World.setCell, Array.getElem?_modify]
 rw [if_neg (by omega)]
theorem range_other {w : World} {B : Nat} {y : It} (h : w.rangeAt B 0 (itCells y)) : (w.setCell ⟨B, 3, none⟩ (.string ⟨#[111, 116, 104, 101, 114]⟩)).rangeAt B 0 (itCells (itO y)) := by
 intro j v hv
 rw [Nat.zero_add]
 by_cases hj : j = 3
 ·subst hj
  simp [itCells, itO] at hv
  subst hv
  exact World.cell?_setCell_same _ _ _ (h 3 _ rfl)
 ·rw [World.cell?_setCell_other _ _ _ _ (by simp [Ne.symm hj])]
  have h1 : (itCells y)[j]? = some v := by
   rw [← hv]
   match j, hj with
   | 0, _ | 1, _ | 2, _ | 4, _ | 5, _ | 6, _ | 7, _ | 8, _ | 9, _ | 10, _ => rfl
   | j + 11, _ => rfl
  have := h j v h1
  rwa [Nat.zero_add] at this
set_option maxRecDepth 100000 in
set_option maxHeartbeats 8000000 in
theorem lawNilsI_any (y : It) (h p : ByteArray) (s t : Bool) (w : World) (hy : ItOk y) (hh : h.size ≤ maxLen) (hp : p.size ≤ maxLen) :
 Calls Tryz.prog 3 #[itVal y, .agg #[.string h, .string p, .bool s, .bool t]] w fun e w' => e = .returned (.bool true) ∧ Below w.heap.size w w' := by
 have HAW := Lib.hid (fun X => awake45_any X)
 unfold maxLen at hh hp
 go_enter Tryz.func3, Tryz.ntmps3
 go_upto_region 1 with fail
 refine wp_name (fun W hW => ?_)
 have hbW : Below w.heap.size w W := by rw [hW.out]; go_grown
 have hY : W.rangeAt w.heap.size 0 (itCells y) := by rw [hW.out]; exact rangeAt_kept (itCells_box y w _) ((Below.refl _ _).alloc (Nat.le_refl _) _)
 have hR : W.rangeAt (w.heap.size + 1) 0 [.string h, .string p, .bool s, .bool t] := by
  rw [hW.out]
  have := rqRange (w.alloc (.cells (itCells y).toArray 27)) h p s t 29
  rw [show (w.alloc (.cells (itCells y).toArray 27)).heap.size = w.heap.size + 1 by simp] at this
  exact this
 clear hW
 have q0 : W.cell? ⟨w.heap.size + 1, 0, none⟩ = some (.string h) := hR 0 _ rfl
 have q1 : W.cell? ⟨w.heap.size + 1, 1, none⟩ = some (.string p) := hR 1 _ rfl
 have HL0 := lightI_any (some ⟨W.heap.size, 0, none⟩) 1 [y] (W.alloc (.cells (itCells y).toArray 27)) (its_new W y _) (by unfold maxLen; simp) (fun z hz => by rw [List.mem_singleton.1 hz]; exact ⟨hy.name, hy.domain, hy.path, hy.value⟩)
 have HLI : Hid (Calls Tryz.prog 4 #[.slice (some ⟨W.heap.size, 0, none⟩) 1 1] (W.alloc (.cells (itCells y).toArray 27)) fun e w' => e = .returned (.bool (lightI [y])) ∧ Below W.heap.size W w') :=
  Lib.hid (HL0.mono fun e w' ⟨he, hw⟩ => ⟨he, by rw [← hw]; exact (Below.refl _ _).alloc (Nat.le_refl _) _⟩)
 clear HL0 hy
 by_cases hli : lightI [y] = true
 case neg =>
  rw [Bool.eq_false_iff.2 hli] at HLI
  clear hli
  go_wp2_with (first
   | ((with_reducible refine wpList_load_to 27 _ w.heap.size 0 (itCells y) (itVal y) rfl _ Tryz.underlying27 rfl (by kernel_rfl) hY ?_ rfl ?_); exact rfl)
   | (refine wpList_build1I rfl 31 27 _ rfl (itCells y).toArray 11 rfl rfl (by decide) (by decide) Tryz.underlying31 (by kernel_rfl) (by kernel_rfl) ?_)
   | (go_at_call 4; (refine HLI.out.mono ?_); rintro e w1 ⟨rfl, hb1⟩; have r0 := kept hb1 q0; have r1 := kept hb1 q1)
   | (go_at_call 5; (refine (HAW.out _).mono ?_); rintro e w9 ⟨rfl, hb9⟩))
  all_goals
   go_ret
   exact ⟨rfl, below2 hbW (below2 hb1 hb9)⟩
 case pos =>
 have hyl := (light_facts hli).2 y (by simp)
 rw [hli] at HLI
 clear hli
 by_cases h300 : h.size ≤ 300
 case neg =>
  go_wp2_with (first
   | ((with_reducible refine wpList_load_to 27 _ w.heap.size 0 (itCells y) (itVal y) rfl _ Tryz.underlying27 rfl (by kernel_rfl) hY ?_ rfl ?_); exact rfl)
   | (refine wpList_build1I rfl 31 27 _ rfl (itCells y).toArray 11 rfl rfl (by decide) (by decide) Tryz.underlying31 (by kernel_rfl) (by kernel_rfl) ?_)
   | (go_at_call 4; (refine HLI.out.mono ?_); rintro e w1 ⟨rfl, hb1⟩; have r0 := kept hb1 q0; have r1 := kept hb1 q1)
   | (go_at_call 5; (refine (HAW.out _).mono ?_); rintro e w9 ⟨rfl, hb9⟩))
  all_goals
   go_ret
   exact ⟨rfl, below2 hbW (below2 hb1 hb9)⟩
 case pos =>
 by_cases p300 : p.size ≤ 300
 case neg =>
  go_wp2_with (first
   | ((with_reducible refine wpList_load_to 27 _ w.heap.size 0 (itCells y) (itVal y) rfl _ Tryz.underlying27 rfl (by kernel_rfl) hY ?_ rfl ?_); exact rfl)
   | (refine wpList_build1I rfl 31 27 _ rfl (itCells y).toArray 11 rfl rfl (by decide) (by decide) Tryz.underlying31 (by kernel_rfl) (by kernel_rfl) ?_)
   | (go_at_call 4; (refine HLI.out.mono ?_); rintro e w1 ⟨rfl, hb1⟩; have r0 := kept hb1 q0; have r1 := kept hb1 q1)
   | (go_at_call 5; (refine (HAW.out _).mono ?_); rintro e w9 ⟨rfl, hb9⟩))
  all_goals
   go_ret
   exact ⟨rfl, below2 hbW (below2 hb1 hb9)⟩
 case pos =>
 have HG : Hid (∀ X, Calls Tryz.prog 6 #[.pointer none, keyV y.key] X fun e w' => e = .returned (.tuple #[itVal it0, .bool false]) ∧ Below X.heap.size X w') := Lib.hid fun X => getNil_any y.key X
 go_upto_region 4 with (first
  | ((with_reducible refine wpList_load_to 27 _ w.heap.size 0 (itCells y) (itVal y) rfl _ Tryz.underlying27 rfl (by kernel_rfl) hY ?_ rfl ?_); exact rfl)
  | (refine wpList_build1I rfl 31 27 _ rfl (itCells y).toArray 11 rfl rfl (by decide) (by decide) Tryz.underlying31 (by kernel_rfl) (by kernel_rfl) ?_)
  | (go_at_call 4; (refine HLI.out.mono ?_); rintro e w1 ⟨rfl, hb1⟩; have r0 := kept hb1 q0; have r1 := kept hb1 q1))
 have Y1 := rangeAt_kept hY hb1
 have R1 := rangeAt_kept hR hb1
 have YK := range_keyCs Y1
 have hB1 := below2 hbW hb1
 clear hY hR q0 q1 r0 r1 HLI hbW hb1
 have hz1 := hB1.size
 go_upto_region 5 with (first
  | ((with_reducible refine wpList_load_to 23 _ w.heap.size 0 (keyCs y.key) (keyV y.key) rfl _ Tryz.underlying23 rfl (by kernel_rfl) YK ?_ rfl ?_); exact rfl)
  | (go_at_call 6; (refine (HG.out _).mono ?_); rintro e w2 ⟨rfl, hb2⟩)
  | (refine wpList_store_new 27 _ _ _ (itCells it0).toArray rfl rfl (by kernel_rfl) rfl (by kernel_rfl) ?_))
 refine wp_name (fun wb hwb => ?_)
 have hb3 : Below w1.heap.size w1 wb := by rw [hwb.out]; exact hb2.alloc hb2.size _
 have Yb := rangeAt_kept Y1 hb3
 have Rb := rangeAt_kept R1 hb3
 have hBb := below2 hB1 hb3
 clear hwb hb2 hb3 YK Y1 R1 hB1 HG
 have hN := new_x (lo := wb.heap.size) (some ⟨wb.heap.size, 0, none⟩) 1 [y] (wb.alloc (.cells (itCells y).toArray 27)) (by simp) (its_new wb y _) (by simp) (fun z hz => by rw [List.mem_singleton.1 hz]; exact hyl.2.1)
 rw [byI_one] at hN
 have HNW := Lib.hid hN
 clear hN
 go_upto_region 6 with (first
  | ((with_reducible refine wpList_load_to 27 _ w.heap.size 0 (itCells y) (itVal y) rfl _ Tryz.underlying27 rfl (by kernel_rfl) Yb ?_ rfl ?_); exact rfl)
  | (refine wpList_build1I rfl 31 27 _ rfl (itCells y).toArray 11 rfl rfl (by decide) (by decide) Tryz.underlying31 (by kernel_rfl) (by kernel_rfl) ?_)
  | (go_at_call 7; (refine HNW.out.mono ?_); rintro e w4 ⟨x, rfl, hI, hf4⟩))
 have hal : Below wb.heap.size wb (wb.alloc (.cells (itCells y).toArray 27)) := (Below.refl _ _).alloc (Nat.le_refl _) _
 have hb4 : Below wb.heap.size wb w4 := hal.trans (hf4.below hal.size fun q hq => hq.1)
 have Y4 := rangeAt_kept Yb hb4
 have d4 : w4.cell? ⟨w.heap.size, 1, none⟩ = some (.string y.key.domain) := Y4 1 _ rfl
 have hgd : Good [y] := ⟨by rw [← byI_one]; exact byI_srt _, by simp, fun z hz => by rw [List.mem_singleton.1 hz]; exact hyl.2.1⟩
 have hD := domain_s hI hgd y.key.domain (by omega)
 rw [domI_one] at hD
 have HD := Lib.hid hD
 clear hD HNW hal hf4
 go_upto_region 7 with (go_at_call 8; (refine HD.out.mono ?_); rintro e w5 ⟨v5, rfl, hown5, hb5⟩; obtain ⟨a5, c5, rfl, hW5, _⟩ := own_cellsIn hown5)
 have Y5 := rangeAt_kept Y4 hb5
 clear HD hown5 d4 Y4
 go_upto_region 8 with (first
  | ((with_reducible refine wpList_load_to 27 _ w.heap.size 0 (itCells y) (itVal y) rfl _ Tryz.underlying27 rfl (by kernel_rfl) Y5 ?_ rfl ?_); exact rfl)
  | (refine wpList_store_new 27 _ _ _ (itCells y).toArray rfl rfl (by kernel_rfl) rfl (by kernel_rfl) ?_))
 refine wp_name (fun wc hwc => ?_)
 have hb6 : Below w5.heap.size w5 wc := by rw [hwc.out]; exact (Below.refl _ _).alloc (Nat.le_refl _) _
 have hC : wc.heap[w5.heap.size]? = some (.cells (itCells y).toArray 27 (0, 0)) := by rw [hwc.out]; exact heap_alloc_last w5 _
 have hO : wc.rangeAt w5.heap.size 0 (itCells y) := by rw [hwc.out]; exact itCells_box y w5 _
 have o3 : wc.cell? ⟨w5.heap.size, 3, none⟩ = some (.string y.ck.value) := hO 3 _ rfl
 have of : wc.frozen? ⟨w5.heap.size, 3, none⟩ = false := by simp [World.frozen?, hC]
 clear hwc hC
 go_upto_region 9 with fail
 refine wp_name (fun wd hwd => ?_)
 have hb7 : Below w5.heap.size w5 wd := by rw [hwd.out]; exact hb6.trans below_setCell
 have hP : wd.rangeAt w5.heap.size 0 (itCells (itO y)) := by rw [hwd.out]; exact range_other hO
 clear hwd hO o3 of hb6
 have hb57 := below2 hb5 hb7
 have HPU := Lib.hid (put_s (hI.kept hb57) hgd (itO y) (by exact hyl.2.1) (by simp))
 have W7 := CellsIn.kept hW5 hb7
 have hb47 : Below wb.heap.size wb wd := below2 hb4 hb57
 generalize w5.heap.size = B5 at *
 clear hb57 hb7 hb5 hW5 Y5 hI hb4
 go_upto_region 10 with (first
  | ((with_reducible refine wpList_load_to 27 _ B5 0 (itCells (itO y)) (itVal (itO y)) rfl _ Tryz.underlying27 rfl (by kernel_rfl) hP ?_ rfl ?_); exact rfl)
  | (go_at_call 9; (refine HPU.out.mono ?_); rintro e w6 ⟨rfl, hI6, hf6⟩))
 have W6 := ItsIn.ix W7 hf6
 have hb8 := hb47.trans (hf6.below hb47.size fun q hq => hq.1)
 have Y6 := rangeAt_kept Yb hb8
 have R6 := rangeAt_kept Rb hb8
 have hB6 := below2 hBb hb8
 clear HPU hP W7 hb47 hI6 hf6 hb8 Yb Rb hBb hgd
 obtain ⟨A, off, rfl, hL⟩ := ItsIn.at W6 (k := 0) (by simp)
 simp only [Nat.zero_mul, Nat.add_zero, List.getElem_cons_zero] at hL
 clear W6
 have K6 := range_keyCs Y6
 have e1 : w6.cell? ⟨w.heap.size, 1, none⟩ = some (.string y.key.domain) := Y6 1 _ rfl
 have e0 : w6.cell? ⟨w.heap.size + 1, 0, none⟩ = some (.string h) := R6 0 _ rfl
 have hEq := fun (W : World) => eqItem W 9997 y.key y.key y.ck y.ck
 rw [decide_eq_true (rfl : y.key = y.key), decide_eq_true (rfl : y.ck = y.ck)] at hEq
 have hg := noGuardItem
 have HP := Lib.hid (fun X => putNil_any y X)
 have HR := Lib.hid (fun X => removeNil_any y.key X)
 have HD := Lib.hid (fun X => domainNil_any y.key.domain X)
 have HN := Lib.hid (fun X => nearNil_any h X)
 have HK := Lib.hid (fun X => pickNil_any h p s t 0 X)
 have HI := Lib.hid (fun X => itemsNil_any X)
 have HL := Lib.hid (fun X => lenNil_any X)
 have HS := Lib.hid (fun X => nodesNil_any X)
 have hB := hB6
 clear hB6
 refine wp_region_after (by kernel_rfl) (by kernel_rfl) (fun WA hWA => ?_)
 have hbA : Below w6.heap.size w6 WA := by rw [hWA.out]; go_grown
 have pe1 : ∀ i : After WA, i.w.cell? ⟨w.heap.size, 1, none⟩ = some (.string y.key.domain) := fun i => i.cell (kept hbA e1)
 have pe0 : ∀ i : After WA, i.w.cell? ⟨w.heap.size + 1, 0, none⟩ = some (.string h) := fun i => i.cell (kept hbA e0)
 have YA := rangeAt_kept Y6 hbA
 have RA := rangeAt_kept R6 hbA
 have LA := rangeAt_kept hL hbA
 clear hWA
 go_big_quiet_step (fail)
 go_big_quiet_step (fail)
 go_big_quiet_step (fail)
 go_big_quiet_step (fail)
 ((with_reducible refine wpQuiet_load_to 27 _ w.heap.size 0 (itCells y) (itVal y) rfl _ Tryz.underlying27 rfl (by kernel_rfl) YA ?_ rfl ?_); exact rfl; go_simp)
 go_big_quiet_step (exact Calls.after (HP.out _))
 go_big_quiet_step (fail)
 go_big_quiet_step (fail)
 go_big_quiet_step (fail)
 go_big_quiet_step (fail)
 go_big_quiet_step (fail)
 ((with_reducible refine wpQuiet_load_to 23 _ w.heap.size 0 (keyCs y.key) (keyV y.key) rfl _ Tryz.underlying23 rfl (by kernel_rfl) (range_keyCs YA) ?_ rfl ?_); exact rfl; go_simp)
 go_big_quiet_step (exact Calls.after (HR.out _))
 go_big_quiet_step (fail)
 go_big_quiet_step (fail)
 go_big_quiet_step (fail)
 go_big_quiet_step (fail)
 go_big_quiet_step (fail)
 go_big_quiet_step (fail)
 go_big_quiet_step (fail)
 go_big_quiet_step (exact Calls.after (HD.out _))
 go_big_quiet_step (fail)
 go_big_quiet_step (fail)
 go_big_quiet_step (fail)
 go_big_quiet_step (fail)
 go_big_quiet_step (exact Calls.after (HN.out _))
 go_big_quiet_step (fail)
 go_big_quiet_step (fail)
 go_big_quiet_step (fail)
 ((with_reducible refine wpQuiet_load_to 29 _ (w.heap.size + 1) 0 ([.string h, .string p, .bool s, .bool t]) (.agg #[.string h, .string p, .bool s, .bool t]) rfl _ Tryz.underlying29 rfl (by kernel_rfl) RA ?_ rfl ?_); exact rfl; go_simp)
 go_big_quiet_step (exact Calls.after (HK.out _))
 go_big_quiet_step (fail)
 go_big_quiet_step (fail)
 go_big_quiet_step (fail)
 go_big_quiet_step (exact Calls.after (HI.out _))
 go_big_quiet_step (fail)
 go_big_quiet_step (fail)
 go_big_quiet_step (fail)
 go_big_quiet_step (exact Calls.after (HL.out _))
 go_big_quiet_step (fail)
 go_big_quiet_step (fail)
 go_big_quiet_step (exact Calls.after (HS.out _))
 go_big_quiet_step (fail)
 go_big_quiet_step (fail)
 go_big_quiet_step (fail)
 go_big_quiet_step (fail)
 go_big_quiet_step (fail)
 go_big_quiet_step (fail)
 go_big_quiet_step (fail)
 go_big_quiet_step (fail)
 go_big_quiet_step (fail)
 go_big_quiet_step (fail)
 go_big_quiet_step (fail)
 ((with_reducible refine wpQuiet_load_to 27 _ A off (itCells y) (itVal y) rfl _ Tryz.underlying27 rfl (by kernel_rfl) LA ?_ rfl ?_); exact rfl; go_simp)
 ((with_reducible refine wpQuiet_load_to 27 _ w.heap.size 0 (itCells y) (itVal y) rfl _ Tryz.underlying27 rfl (by kernel_rfl) YA ?_ rfl ?_); exact rfl; go_simp)
 go_big_quiet_step (fail)
 go_big_quiet_step (fail)
 go_big_quiet_step (fail)
 go_big_quiet_step (exact Calls.after (HAW.out _))
 go_big_quiet_step (fail)
 go_big_quiet_step (fail)
 refine wpQuiet_nil ?_
 first
  | rintro _ ⟨i, rfl⟩
  | intro i
 have hiA := i.h
 generalize i.w = w7 at hiA ⊢
 have hbw7 : Below w6.heap.size w6 w7 := below2 hbA hiA
 clear hbA hiA pe1 pe0
 go_wp2
 go_ret
 exact ⟨rfl, below2 hB hbw7⟩
end Go.Proofs.YtkklcpmbgfgcmaaGreat
