/- The reference's map: Winner. Conditions: as in the text. -/
import Derived.Test.YtcijajjngmmbeaaGreatRefW
import Derived.Test.YtcijajjngmmbeaaGreatWin
set_option linter.unusedSimpArgs false
set_option linter.unusedVariables false
set_option linter.unnecessarySimpa false
namespace Go.Proofs.YtcijajjngmmbeaaGreat
open Go.RowKit

def rwin : List Ev → Ev
  | [] => ev0
  | x :: r => r.foldl winStep x
theorem rwin_snoc : ∀ {l : List Ev} {e : Ev}, l ≠ [] → rwin (l ++ [e]) = winStep (rwin l) e
  | [], _, h => absurd rfl h
  | x :: r, e, _ => by
    show (r ++ [e]).foldl winStep x = _
    rw [List.foldl_append]
    rfl
theorem winOf_eq (l : List Ev) : winOf l = (rwin l, decide (0 < l.length)) := by cases l <;> rfl
set_option maxRecDepth 100000 in
set_option maxHeartbeats 4000000 in
theorem rWinner21_any (x : RMIt) (ky : Key) (w : World) (hK : x.K.length ≤ 4096) (hdl : x.dead.length ≤ 1048576) (hI : RMIn w x) (hok : ∀ z ∈ x.K, ∀ d ∈ z.1.over, dotOk d = true) :
    Calls Tryz.prog 20 #[rmVal x, keyVal ky] w (RetWin (winOf (evsOf ((x.K.filter (aliveB x.dead)).filter (keyB ky)))) w) := by
  have HKy := Lib.hid (fun (X : World) (h : RMIn X x) => rKey21_any x ky X hK hdl h)
  have HLs := Lib.hid (fun (a b : Stamp) (X : World) => rClockLess_any a b X)
  rw [winOf_eq]
  have HOK : Hid (∀ z ∈ (x.K.filter (aliveB x.dead)).filter (keyB ky), ∀ d ∈ z.1.over, dotOk d = true) := fun z hz => hok z (List.mem_filter.1 (List.mem_filter.1 hz).1).1
  have hLK : ((x.K.filter (aliveB x.dead)).filter (keyB ky)).length ≤ 4096 := Nat.le_trans (List.length_filter_le _ _) (Nat.le_trans (List.length_filter_le _ _) hK)
  generalize (x.K.filter (aliveB x.dead)).filter (keyB ky) = L at *
  rw [evsOf_length]
  clear hok hK hdl
  go_enter Tryz.func20, Tryz.ntmps20
  go_upto_region 1 with fail
  refine wp_name (fun V hV => ?_)
  have hb0 : Below w.heap.size w V := by rw [hV.out]; go_grown
  have x0 : V.cell? ⟨w.heap.size, 0, none⟩ = some (.slice x.ac x.ctx.length x.cc) := by rw [hV.out]; go_simp
  have x1 : V.cell? ⟨w.heap.size, 1, none⟩ = some (.slice x.aK x.K.length x.cK) := by rw [hV.out]; go_simp
  have x2 : V.cell? ⟨w.heap.size, 2, none⟩ = some (.slice x.ad x.dead.length x.cd) := by rw [hV.out]; go_simp
  have k0 : V.cell? ⟨w.heap.size + 1, 0, none⟩ = some (.string ky.name) := by rw [hV.out]; go_simp
  have k1 : V.cell? ⟨w.heap.size + 1, 1, none⟩ = some (.string ky.domain) := by rw [hV.out]; go_simp
  have k2 : V.cell? ⟨w.heap.size + 1, 2, none⟩ = some (.string ky.path) := by rw [hV.out]; go_simp
  have hC : V.heap[w.heap.size + 2]? = some (.cells (evCells ev0 none 0).toArray 42 (0, 0)) := by
    rw [hV.out]
    have h9 := heap_last0 ((w.alloc (.cells #[.slice x.ac x.ctx.length x.cc, .slice x.aK x.K.length x.cK, .slice x.ad x.dead.length x.cd] 45)).alloc (.cells #[.string ky.name, .string ky.domain, .string ky.path] 24)) (.cells (evCells ev0 none 0).toArray 42)
    rwa [show ((w.alloc (.cells #[.slice x.ac x.ctx.length x.cc, .slice x.aK x.K.length x.cK, .slice x.ad x.dead.length x.cd] 45)).alloc (.cells #[.string ky.name, .string ky.domain, .string ky.path] 24)).heap.size = w.heap.size + 2 by simp] at h9
  have hI0 := hI.keep hb0
  clear hV hI
  go_upto_region 2 with (go_at_call 23; (with_reducible refine (HKy.out _ hI0).mono ?_); rintro v w1 ⟨aL, cL, rfl, hE, _, hb1⟩)
  have hC1 := (hb1.block _ (lt_of_block hC)).trans hC
  have hCl := lt_of_block hC1
  have hbw1 : Below w.heap.size w w1 := hb0.trans (hb1.mono hb0.size)
  clear x0 x1 x2 k0 k1 k2 hC hI0 hb0 hb1 HKy
  go_upto_region 3 with (refine wpList_store_new 42 _ _ _ (evCells ev0 none 0).toArray rfl rfl (by kernel_rfl) rfl (by kernel_rfl) ?_)
  obtain ⟨W2, hW2⟩ : ∃ W2, W2 = w1.alloc (.cells (evCells ev0 none 0).toArray 42) := ⟨_, rfl⟩
  have hb2 : Below w1.heap.size w1 W2 := by rw [hW2]; exact (Below.refl _ _).alloc (Nat.le_refl _) _
  have hB2 : W2.heap[w1.heap.size]? = some (.cells (evCells ev0 none 0).toArray 42 (0, 0)) := by rw [hW2]; exact heap_last0 _ _
  rw [← hW2]
  clear hW2
  obtain ⟨BB, hBB⟩ : ∃ BB, BB = w1.heap.size := ⟨_, rfl⟩
  have HBB := Lib.hid hBB
  rw [← hBB] at hB2 ⊢
  clear hBB
  go_wp2
  go_loopw [8] (fun i wr => ∃ (k : Nat) (z : EvIt), i = .int .i64 k ∧ k ≤ L.length ∧ wr.heap[BB]? = some (.cells (evCells z.1 z.2.1 z.2.2).toArray 42 (0, 0)) ∧ (0 < k → z ∈ L) ∧ (k = 0 → z = (ev0, none, 0)) ∧ z.1 = rwin ((evsOf L).take k) ∧ Below w1.heap.size w1 wr) (fun i _ => L.length - (intOf i).toNat)
  case atStart => exact ⟨0, (ev0, none, 0), rfl, Nat.zero_le _, hB2, fun h9 => absurd h9 (by omega), fun _ => rfl, rfl, hb2⟩
  case round =>
    obtain ⟨k, ⟨z, az, cz⟩, rfl, hk, hBr, hzm, hz0, hzv, hbr⟩ := hrel
    simp only at hBr hzv
    have HZ0 := Lib.hid (And.intro hzv (And.intro hzm hz0))
    clear hzv hzm hz0 hB2 hb2
    have rz : wr.rangeAt BB 0 (evCells z az cz) := fun i v hv => by
      rw [Nat.zero_add]
      simp only [World.cell?, hBr]
      simpa using hv
    have hzr := hbr.size
    by_cases hlt : k < L.length
    · obtain ⟨A, off, rfl, hra, _⟩ := (hE.kept hbr).at hlt
      have r1 := hra k hlt
      have HY : Hid (L[k] ∈ L) := List.getElem_mem hlt
      have HS : Hid ((evsOf L).take (k + 1) = (evsOf L).take k ++ [L[k].1]) := by
        unfold Hid
        rw [List.take_add_one, List.getElem?_eq_getElem (by rw [evsOf_length]; exact hlt), evsOf_at hlt]
        rfl
      have HTN : Hid (0 < k → (evsOf L).take k ≠ []) := fun h9 e9 => by
        have := congrArg List.length e9
        rw [List.length_take, evsOf_length, List.length_nil, Nat.min_eq_left hk] at this
        omega
      have HLT := Lib.hid hlt
      have hkl : k ≤ 4096 := by omega
      generalize L[k] = y at *
      obtain ⟨e, ae, ce⟩ := y
      simp only [itEv] at r1
      simp only at HS
      have e3 := r1 3 _ rfl
      have e4 := r1 4 _ rfl
      have e5 := r1 5 _ rfl
      have z3 := rz 3 _ rfl
      have z4 := rz 4 _ rfl
      have z5 := rz 5 _ rfl
      simp only [Nat.zero_add] at z3 z4 z5
      have HL1 := fun (X : World) => HLs.out e.stamp z.stamp X
      clear hra
      rcases Nat.eq_zero_or_pos k with hk0 | hk0
      · have hkb : ((k : Int) == 0) = true := beq_iff_eq.2 (by omega)
        have HN : Hid (e = rwin ((evsOf L).take (k + 1))) := by unfold Hid; rw [HS.out, hk0]; rfl
        clear hk0 HL1
        go_upto_region 6 with fail
        refine wp_region_after (by kernel_rfl) (by kernel_rfl) (fun WA hWA => ?_)
        have hbA : Below wr.heap.size wr WA := by rw [hWA.out]; go_grown
        have pz3 : ∀ i : After WA, i.w.cell? ⟨BB, 3, none⟩ = some (.int .i64 z.stamp.wall) := fun i => i.cell (kept hbA z3)
        have pz4 : ∀ i : After WA, i.w.cell? ⟨BB, 4, none⟩ = some (.int .i64 z.stamp.count) := fun i => i.cell (kept hbA z4)
        have pz5 : ∀ i : After WA, i.w.cell? ⟨BB, 5, none⟩ = some (.int .i64 z.stamp.dev) := fun i => i.cell (kept hbA z5)
        have pe3 : ∀ i : After WA, i.w.cell? ⟨A, off + k * 19 + 3, none⟩ = some (.int .i64 e.stamp.wall) := fun i => i.cell (kept hbA e3)
        have pe4 : ∀ i : After WA, i.w.cell? ⟨A, off + k * 19 + 4, none⟩ = some (.int .i64 e.stamp.count) := fun i => i.cell (kept hbA e4)
        have pe5 : ∀ i : After WA, i.w.cell? ⟨A, off + k * 19 + 5, none⟩ = some (.int .i64 e.stamp.dev) := fun i => i.cell (kept hbA e5)
        clear hWA
        go_big_quiet_step (fail)
        go_big_quiet_step (fail)
        go_big_quiet_step (fail)
        go_big_quiet_step (fail)
        go_big_quiet_step (fail)
        go_big_quiet_step (fail)
        go_big_quiet_step (fail)
        go_big_quiet_step (fail)
        go_big_quiet_step (fail)
        go_big_quiet_step (fail)
        go_big_quiet_step (fail)
        go_big_quiet_step (fail)
        go_big_quiet_step (fail)
        refine wpQuiet_nil ?_
        rintro _ ⟨i, rfl⟩
        have hiA := i.h
        generalize i.w = wp at hiA ⊢
        have hbY : Below wr.heap.size wr wp := below2 hbA hiA
        clear hbA hiA pz3 pz4 pz5 pe3 pe4 pe5
        have r5 := rangeAt_kept r1 hbY
        have hB5 := (hbY.block _ (lt_of_block hBr)).trans hBr
        have hbr5 : Below w1.heap.size w1 wp := hbr.trans (hbY.mono hzr)
        clear r1 rz hBr hbr hbY z3 z4 z5 e3 e4 e5
        go_wp2_with (first
          | ((with_reducible refine wpList_load_evo _ A (off + k * 19) e ae ce r5 ?_ rfl ?_); exact rfl)
          | (refine wpList_store_row rfl 42 _ _ rfl BB (evCells e ae ce).toArray rfl rfl 42 _ hB5 (by kernel_rfl) rfl (by kernel_rfl) ?_))
        have HB := Lib.hid (And.intro (setRow_heap _ _ _ (evCells e ae ce).toArray _ _ hB5) (below_setRow hbr5 (Nat.le_of_eq HBB.out.symm) (evCells e ae ce).toArray))
        clear hB5 hbr5 r5
        go_roundw
        case rel => exact ⟨k + 1, (e, ae, ce), by go_num, HLT.out, HB.out.1, fun _ => HY.out, fun h9 => absurd h9 (by omega), HN.out, HB.out.2⟩
        case measure => have := HLT.out; simp [intOf] <;> omega
      · have hkb : ((k : Int) == 0) = false := beq_eq_false_iff_ne.2 (by omega)
        have hN0 := rwin_snoc (e := e) (HTN.out hk0)
        rw [← HS.out, ← HZ0.out.1] at hN0
        cases hlt2 : stampLt e.stamp z.stamp with
        | true =>
          rw [hlt2] at HL1
          have HN : Hid (z = rwin ((evsOf L).take (k + 1))) := by unfold Hid; rw [hN0]; unfold winStep; rw [hlt2, if_pos rfl]
          have HKP := Lib.hid hk0
          clear hlt2 hN0 hk0
          go_upto_region 6 with fail
          refine wp_region_after (by kernel_rfl) (by kernel_rfl) (fun WA hWA => ?_)
          have hbA : Below wr.heap.size wr WA := by rw [hWA.out]; go_grown
          have pz3 : ∀ i : After WA, i.w.cell? ⟨BB, 3, none⟩ = some (.int .i64 z.stamp.wall) := fun i => i.cell (kept hbA z3)
          have pz4 : ∀ i : After WA, i.w.cell? ⟨BB, 4, none⟩ = some (.int .i64 z.stamp.count) := fun i => i.cell (kept hbA z4)
          have pz5 : ∀ i : After WA, i.w.cell? ⟨BB, 5, none⟩ = some (.int .i64 z.stamp.dev) := fun i => i.cell (kept hbA z5)
          have pe3 : ∀ i : After WA, i.w.cell? ⟨A, off + k * 19 + 3, none⟩ = some (.int .i64 e.stamp.wall) := fun i => i.cell (kept hbA e3)
          have pe4 : ∀ i : After WA, i.w.cell? ⟨A, off + k * 19 + 4, none⟩ = some (.int .i64 e.stamp.count) := fun i => i.cell (kept hbA e4)
          have pe5 : ∀ i : After WA, i.w.cell? ⟨A, off + k * 19 + 5, none⟩ = some (.int .i64 e.stamp.dev) := fun i => i.cell (kept hbA e5)
          clear hWA
          go_big_quiet_step (fail)
          go_big_quiet_step (fail)
          go_big_quiet_step (fail)
          go_big_quiet_step (fail)
          go_big_quiet_step (fail)
          go_big_quiet_step (fail)
          go_big_quiet_step (fail)
          go_big_quiet_step (fail)
          go_big_quiet_step (fail)
          go_big_quiet_step (fail)
          go_big_quiet_step (exact Calls.after (HL1 _))
          go_big_quiet_step (fail)
          go_big_quiet_step (fail)
          refine wpQuiet_nil ?_
          rintro _ ⟨i, rfl⟩
          have hiA := i.h
          generalize i.w = wp at hiA ⊢
          have hbY : Below wr.heap.size wr wp := below2 hbA hiA
          clear hbA hiA pz3 pz4 pz5 pe3 pe4 pe5
          have HB := Lib.hid (And.intro ((hbY.block _ (lt_of_block hBr)).trans hBr) (hbr.trans (hbY.mono hzr)))
          clear hBr hbr hbY rz r1 z3 z4 z5 e3 e4 e5
          go_wp2
          go_roundw
          case rel => exact ⟨k + 1, (z, az, cz), by go_num, HLT.out, HB.out.1, fun _ => HZ0.out.2.1 HKP.out, fun h9 => absurd h9 (by omega), HN.out, HB.out.2⟩
          case measure => have := HLT.out; simp [intOf] <;> omega
        | false =>
          rw [hlt2] at HL1
          have HN : Hid (e = rwin ((evsOf L).take (k + 1))) := by unfold Hid; rw [hN0]; unfold winStep; rw [hlt2, if_neg (by decide)]
          clear hlt2 hN0 hk0
          go_upto_region 6 with fail
          refine wp_region_after (by kernel_rfl) (by kernel_rfl) (fun WA hWA => ?_)
          have hbA : Below wr.heap.size wr WA := by rw [hWA.out]; go_grown
          have pz3 : ∀ i : After WA, i.w.cell? ⟨BB, 3, none⟩ = some (.int .i64 z.stamp.wall) := fun i => i.cell (kept hbA z3)
          have pz4 : ∀ i : After WA, i.w.cell? ⟨BB, 4, none⟩ = some (.int .i64 z.stamp.count) := fun i => i.cell (kept hbA z4)
          have pz5 : ∀ i : After WA, i.w.cell? ⟨BB, 5, none⟩ = some (.int .i64 z.stamp.dev) := fun i => i.cell (kept hbA z5)
          have pe3 : ∀ i : After WA, i.w.cell? ⟨A, off + k * 19 + 3, none⟩ = some (.int .i64 e.stamp.wall) := fun i => i.cell (kept hbA e3)
          have pe4 : ∀ i : After WA, i.w.cell? ⟨A, off + k * 19 + 4, none⟩ = some (.int .i64 e.stamp.count) := fun i => i.cell (kept hbA e4)
          have pe5 : ∀ i : After WA, i.w.cell? ⟨A, off + k * 19 + 5, none⟩ = some (.int .i64 e.stamp.dev) := fun i => i.cell (kept hbA e5)
          clear hWA
          go_big_quiet_step (fail)
          go_big_quiet_step (fail)
          go_big_quiet_step (fail)
          go_big_quiet_step (fail)
          go_big_quiet_step (fail)
          go_big_quiet_step (fail)
          go_big_quiet_step (fail)
          go_big_quiet_step (fail)
          go_big_quiet_step (fail)
          go_big_quiet_step (fail)
          go_big_quiet_step (exact Calls.after (HL1 _))
          go_big_quiet_step (fail)
          go_big_quiet_step (fail)
          refine wpQuiet_nil ?_
          rintro _ ⟨i, rfl⟩
          have hiA := i.h
          generalize i.w = wp at hiA ⊢
          have hbY : Below wr.heap.size wr wp := below2 hbA hiA
          clear hbA hiA pz3 pz4 pz5 pe3 pe4 pe5
          have r5 := rangeAt_kept r1 hbY
          have hB5 := (hbY.block _ (lt_of_block hBr)).trans hBr
          have hbr5 : Below w1.heap.size w1 wp := hbr.trans (hbY.mono hzr)
          clear r1 rz hBr hbr hbY z3 z4 z5 e3 e4 e5
          go_wp2_with (first
            | ((with_reducible refine wpList_load_evo _ A (off + k * 19) e ae ce r5 ?_ rfl ?_); exact rfl)
            | (refine wpList_store_row rfl 42 _ _ rfl BB (evCells e ae ce).toArray rfl rfl 42 _ hB5 (by kernel_rfl) rfl (by kernel_rfl) ?_))
          have HB := Lib.hid (And.intro (setRow_heap _ _ _ (evCells e ae ce).toArray _ _ hB5) (below_setRow hbr5 (Nat.le_of_eq HBB.out.symm) (evCells e ae ce).toArray))
          clear hB5 hbr5 r5
          go_roundw
          case rel => exact ⟨k + 1, (e, ae, ce), by go_num, HLT.out, HB.out.1, fun _ => HY.out, fun h9 => absurd h9 (by omega), HN.out, HB.out.2⟩
          case measure => have := HLT.out; simp [intOf] <;> omega
    · obtain rfl : k = L.length := by omega
      have hzf : z = rwin (evsOf L) := by
        have h9 := HZ0.out.1
        rwa [List.take_of_length_le (by rw [evsOf_length]; exact Nat.le_refl _)] at h9
      have HZF := Lib.hid hzf
      have hCr := (hbr.block _ hCl).trans hC1
      have hbF : Below w.heap.size w wr := hbw1.trans (hbr.mono hbw1.size)
      have HEr := Lib.hid (hE.kept hbr)
      clear hzf
      by_cases hL0 : L.length = 0
      · have hdi : decide (0 < (L.length : Int)) = false := decide_eq_false (by omega)
        have hdn : decide (0 < L.length) = false := decide_eq_false (by omega)
        have HDN := Lib.hid hdn
        clear hdn
        go_wp2_with (first
          | ((with_reducible refine wpList_load_evo _ BB 0 z az cz rz ?_ rfl ?_); exact rfl)
          | (refine wpList_store_row rfl 42 _ _ rfl (w.heap.size + 2) (evCells z az cz).toArray rfl rfl 42 _ hCr (by kernel_rfl) rfl (by kernel_rfl) ?_))
        refine ret_cell_tmp 4 5 42 42 (w.heap.size + 2) (evCells z az cz).toArray _ _ rfl rfl rfl (setRow_heap _ _ _ _ _ _ hCr) Tryz.underlying42 rfl (by kernel_rfl) rfl ?_
        have hbS := below_setRow hbF (by omega : w.heap.size ≤ w.heap.size + 2) (evCells z az cz).toArray
        refine ⟨az, cz, by rw [HDN.out, ← HZF.out]; rfl, ?_, hbS⟩
        show DotsIn _ az (rwin (evsOf L)).over
        rw [← HZF.out]
        have h9 := HZ0.out.2.2 hL0
        cases h9
        exact Or.inl rfl
      · have hdi : decide (0 < (L.length : Int)) = true := decide_eq_true (by omega)
        have hdn : decide (0 < L.length) = true := decide_eq_true (by omega)
        have HDN := Lib.hid hdn
        clear hdn
        go_wp2_with (first
          | ((with_reducible refine wpList_load_evo _ BB 0 z az cz rz ?_ rfl ?_); exact rfl)
          | (refine wpList_store_row rfl 42 _ _ rfl (w.heap.size + 2) (evCells z az cz).toArray rfl rfl 42 _ hCr (by kernel_rfl) rfl (by kernel_rfl) ?_))
        refine ret_cell_tmp 4 5 42 42 (w.heap.size + 2) (evCells z az cz).toArray _ _ rfl rfl rfl (setRow_heap _ _ _ _ _ _ hCr) Tryz.underlying42 rfl (by kernel_rfl) rfl ?_
        have hbS := below_setRow hbF (by omega : w.heap.size ≤ w.heap.size + 2) (evCells z az cz).toArray
        refine ⟨az, cz, by rw [HDN.out, ← HZF.out]; rfl, ?_, hbS⟩
        show DotsIn _ az (rwin (evsOf L)).over
        rw [← HZF.out]
        have hm9 := HZ0.out.2.1 (by omega)
        exact DotsIn.not0 (HEr.out.dots _ hm9) (HOK.out _ hm9) hCr (fun k9 hk9 => heap_setRow_other _ _ _ _ (fun e9 => hk9 e9.symm))
end Go.Proofs.YtcijajjngmmbeaaGreat
