/- The reference's map: Alive, Key. Conditions: as in the text. -/
import Derived.Test.YtpbobhfnglikmaaGreatRelP
import Derived.Test.YtpbobhfnglikmaaGreatWin
set_option linter.unusedSimpArgs false
set_option linter.unusedVariables false
set_option linter.unnecessarySimpa false
set_option maxHeartbeats 16000000
set_option maxRecDepth 100000
namespace Go.Proofs.YtpbobhfnglikmaaGreat
open Go.RowKit
def RetFl (L : List EvIt) (w : World) (e : Ending) (w' : World) : Prop := ∃ a cap, e = .returned (.slice a L.length cap) ∧ EvsIn w' a L ∧ (L.length ≤ cap ∧ w'.ownsRow w.heap.size 43 19 (.slice a L.length cap) L.length (evItCells L)) ∧ Below w.heap.size w w'
theorem filt_yes {p : EvIt → Bool} {l : List EvIt} {k : Nat} (h : k < l.length) (hp : p l[k] = true) : (l.take (k + 1)).filter p = (l.take k).filter p ++ [l[k]] := by
 rw [List.take_add_one, List.getElem?_eq_getElem h, List.filter_append]
 simp [hp]
theorem filt_no {p : EvIt → Bool} {l : List EvIt} {k : Nat} (h : k < l.length) (hp : p l[k] = false) : (l.take (k + 1)).filter p = (l.take k).filter p := by
 rw [List.take_add_one, List.getElem?_eq_getElem h, List.filter_append]
 simp [hp]
def aliveB (dead : List Dot) (z : EvIt) : Bool := decide (z.1.kind = 1) && !decide (z.1.dot ∈ dead)
theorem rAlive21_any (x : RMIt) (w : World) (hK : x.K.length ≤ 4096) (hdl : x.dead.length ≤ 1048576) (hI : RMIn w x) :
 Calls Tryz.prog 36 #[rmVal x] w (RetFl (x.K.filter (aliveB x.dead)) w) := by
 obtain ⟨i0, hiE, hz0, hz1, hz2⟩ := info_parts Tryz.infoEv
 have HH := Lib.hid (fun (d : Dot) (X : World) (h : DotsIn X x.ad x.dead) => rHasD_any x.ad x.cd x.dead d X (by omega) h)
 obtain ⟨p, hp⟩ : ∃ p, p = aliveB x.dead := ⟨_, rfl⟩
 rw [← hp]
 have HP := Lib.hid hp
 clear hp
 obtain ⟨L, hL⟩ : ∃ L, L = x.K := ⟨_, rfl⟩
 go_enter Tryz.func36, Tryz.ntmps36
 go_upto_region 1 with fail
 refine wp_name (fun W0 hW0 => ?_)
 have hb0 : Below w.heap.size w W0 := by rw [hW0.out]; go_grown
 have C1 : W0.cell? ⟨w.heap.size, 1, none⟩ = some (.slice x.aK x.K.length x.cK) := by rw [hW0.out]; go_simp
 have C2 : W0.cell? ⟨w.heap.size, 2, none⟩ = some (.slice x.ad x.dead.length x.cd) := by rw [hW0.out]; go_simp
 have hE0 := hI.kept.kept hb0
 have hd0 := hI.dead.kept hb0
 have hz0' := hb0.size
 clear hW0 hI
 go_wp2
 have hown0 : (W0.alloc (Obj.cells #[] 43)).ownsRow W0.heap.size 43 19 (.slice (some ⟨W0.heap.size, 0, none⟩) 0 0) 0 [] := World.ownsRow_made _ _ _ (Nat.le_refl _) (by decide) rfl
 have hbM : Below W0.heap.size W0 (W0.alloc (Obj.cells #[] 43)) := (Below.refl _ _).alloc (Nat.le_refl _) _
 rw [← hL] at hE0 hK ⊢
 have HLe := Lib.hid hL
 have hLl : L.length = x.K.length := by rw [hL]
 rw [← hLl] at C1
 clear hL hLl
 go_loopw [3, 4] (fun u i wr => ∃ k : Nat, i = .int .i64 k ∧ k ≤ L.length ∧ wr.ownsRow W0.heap.size 43 19 u ((L.take k).filter p).length (evItCells ((L.take k).filter p)) ∧ Below W0.heap.size W0 wr) (fun _ i _ => L.length - (intOf i).toNat)
 case atStart => exact ⟨0, rfl, Nat.zero_le _, hown0, hbM⟩
 case round =>
  obtain ⟨k, rfl, hk, hown, hB⟩ := hrel
  clear hown0 hbM
  have c1 := kept hB C1
  have c2 := kept hB C2
  have hzr := hB.size
  have hfl : ((L.take k).filter p).length ≤ 4096 := by
   have h1 := List.length_filter_le p (L.take k)
   rw [List.length_take] at h1
   omega
  obtain ⟨u, hu⟩ : ∃ u, u = u3 := ⟨_, rfl⟩
  rw [← hu] at hown ⊢
  clear hu
  by_cases hlt : k < L.length
  ·obtain ⟨A, off, haK, hra, _⟩ := (hE0.kept hB).at hlt
   rw [haK] at c1
   have r1 := hra k hlt
   have HY := Lib.hid (fun h => filt_yes (p := p) hlt h)
   have HN := Lib.hid (fun h => filt_no (p := p) hlt h)
   have HLT := Lib.hid hlt
   have hkl : k ≤ 4096 := by omega
   have HH1 := fun (X : World) (h : DotsIn X x.ad x.dead) => HH.out L[k].1.dot X h
   generalize L[k] = z at *
   obtain ⟨e, ax, cx⟩ := z
   simp only [itEv] at r1
   simp only at HH1
   have q0 := r1 0 _ rfl
   have q1 := r1 1 _ rfl
   have q2 := r1 2 _ rfl
   have q6 := r1 6 _ rfl
   simp only [Nat.add_zero] at q0
   have hdr := hd0.kept hB
   clear hra haK
   by_cases hk1 : e.kind = 1
   ·have hkb : (e.kind == 1) = true := beq_iff_eq.2 hk1
    by_cases hde : e.dot ∈ x.dead
    ·rw [decide_eq_true hde] at HH1
     have HS : Hid ((L.take (k + 1)).filter p = (L.take k).filter p) := HN.out (by rw [HP.out]; show (decide (e.kind = 1) && !decide (e.dot ∈ x.dead)) = false; rw [decide_eq_true hde, Bool.not_true, Bool.and_false])
     clear hde hk1
     go_upto_region 5 with fail
     refine wp_region_after (by kernel_rfl) (by kernel_rfl) (fun WA hWA => ?_)
     have hbA : Below wr.heap.size wr WA := by rw [hWA.out]; go_grown
     have pc1 : ∀ i : After WA, i.w.cell? ⟨w.heap.size, 1, none⟩ = some (.slice (some ⟨A, off, none⟩) L.length x.cK) := fun i => i.cell (kept hbA c1)
     have pc2 : ∀ i : After WA, i.w.cell? ⟨w.heap.size, 2, none⟩ = some (.slice x.ad x.dead.length x.cd) := fun i => i.cell (kept hbA c2)
     have pq0 : ∀ i : After WA, i.w.cell? ⟨A, off + k * 19, none⟩ = some (.int .i64 e.dot.a.dev) := fun i => i.cell (kept hbA q0)
     have pq1 : ∀ i : After WA, i.w.cell? ⟨A, off + k * 19 + 1, none⟩ = some (.int .i64 e.dot.a.inc) := fun i => i.cell (kept hbA q1)
     have pq2 : ∀ i : After WA, i.w.cell? ⟨A, off + k * 19 + 2, none⟩ = some (.int .i64 e.dot.seq) := fun i => i.cell (kept hbA q2)
     have pq6 : ∀ i : After WA, i.w.cell? ⟨A, off + k * 19 + 6, none⟩ = some (.int .i64 e.kind) := fun i => i.cell (kept hbA q6)
     have hdA := hdr.kept hbA
     clear hWA
     iterate 16 go_big_quiet_step (fail)
     go_big_quiet_step (exact Calls.after (HH1 _ (hdA.kept (After.h _))))
     iterate 2 go_big_quiet_step (fail)
     refine wpQuiet_nil ?_
     rintro _ ⟨i, rfl⟩
     have hiA := i.h
     generalize i.w = wp at hiA ⊢
     have hbY : Below wr.heap.size wr wp := below2 hbA hiA
     clear hbA hiA hdA pc1 pc2 pq0 pq1 pq2 pq6
     have HZ : Hid (wp.ownsRow W0.heap.size 43 19 u ((L.take (k + 1)).filter p).length (evItCells ((L.take (k + 1)).filter p)) ∧ Below W0.heap.size W0 wp) := by
      refine ⟨?_, hB.trans (hbY.mono hzr)⟩
      rw [HS.out]
      exact ownsRow_below hown hbY
     clear hown hbY
     go_wp2
     go_roundw
     case rel => exact ⟨k + 1, by go_num, HLT.out, HZ.out.1, HZ.out.2⟩
     case measure => have := HLT.out; simp [intOf] <;> omega
    ·rw [decide_eq_false hde] at HH1
     have HS : Hid ((L.take (k + 1)).filter p = (L.take k).filter p ++ [(e, ax, cx)]) := HY.out (by rw [HP.out]; show (decide (e.kind = 1) && !decide (e.dot ∈ x.dead)) = true; rw [decide_eq_true hk1, decide_eq_false hde]; rfl)
     clear hde hk1
     go_upto_region 5 with fail
     refine wp_region_after (by kernel_rfl) (by kernel_rfl) (fun WA hWA => ?_)
     have hbA : Below wr.heap.size wr WA := by rw [hWA.out]; go_grown
     have pc1 : ∀ i : After WA, i.w.cell? ⟨w.heap.size, 1, none⟩ = some (.slice (some ⟨A, off, none⟩) L.length x.cK) := fun i => i.cell (kept hbA c1)
     have pc2 : ∀ i : After WA, i.w.cell? ⟨w.heap.size, 2, none⟩ = some (.slice x.ad x.dead.length x.cd) := fun i => i.cell (kept hbA c2)
     have pq0 : ∀ i : After WA, i.w.cell? ⟨A, off + k * 19, none⟩ = some (.int .i64 e.dot.a.dev) := fun i => i.cell (kept hbA q0)
     have pq1 : ∀ i : After WA, i.w.cell? ⟨A, off + k * 19 + 1, none⟩ = some (.int .i64 e.dot.a.inc) := fun i => i.cell (kept hbA q1)
     have pq2 : ∀ i : After WA, i.w.cell? ⟨A, off + k * 19 + 2, none⟩ = some (.int .i64 e.dot.seq) := fun i => i.cell (kept hbA q2)
     have pq6 : ∀ i : After WA, i.w.cell? ⟨A, off + k * 19 + 6, none⟩ = some (.int .i64 e.kind) := fun i => i.cell (kept hbA q6)
     have hdA := hdr.kept hbA
     clear hWA
     iterate 16 go_big_quiet_step (fail)
     go_big_quiet_step (exact Calls.after (HH1 _ (hdA.kept (After.h _))))
     iterate 2 go_big_quiet_step (fail)
     refine wpQuiet_nil ?_
     rintro _ ⟨i, rfl⟩
     have hiA := i.h
     generalize i.w = wp at hiA ⊢
     have hbY : Below wr.heap.size wr wp := below2 hbA hiA
     clear hbA hiA hdA pc1 pc2 pq0 pq1 pq2 pq6
     have c5 := kept hbY c1
     have R5 := rangeAt_kept r1 hbY
     have hown5 := ownsRow_below hown hbY
     replace hB := hB.trans (hbY.mono hzr)
     have hz5 := hB.size
     clear r1 hown hbY c1
     go_wp2_with (first
      | ((with_reducible refine wpList_load_evo _ A (off + k * 19) e ax cx R5 ?_ rfl ?_); exact rfl)
      | (refine wpList_buildOne rfl 28 43 _ rfl (evCells e ax cx).toArray 19 rfl rfl (by decide) (by decide) Tryz.underlying28 (by kernel_rfl) (by kernel_rfl) ?_)
      | (at_builtin; go_loud (refine wpList_append_own_at _ rfl _ _ 28 rfl W0.heap.size 43 i0 (.agg (evCells ev0 none 0).toArray) 19 176 Tryz.underlying28 hiE hz0 hz1 hz2 rfl (by decide) _ _ _ rfl (hown5.alloc _) ⟨wp.heap.size, 0, none⟩ 1 1 (evCells e ax cx) rfl rfl (evs_new wp e ax cx _) (evCells_one _ _ _) (by unfold maxLen; omega) (by omega) (by simp; omega) ?_)))
     intro v' wf hownf hgrow _ hat
     have hal : Below wp.heap.size wp (wp.alloc (Obj.cells (evCells e ax cx).toArray 43)) := (Below.refl _ _).alloc (Nat.le_refl _) _
     have hbF : Below W0.heap.size W0 wf := (hB.trans (hal.mono hz5)).grown hgrow (by have := hal.size; omega) (fun j hj => (hown5.lt j hj).1)
     have HZ : Hid (wf.ownsRow W0.heap.size 43 19 v' ((L.take (k + 1)).filter p).length (evItCells ((L.take (k + 1)).filter p)) ∧ Below W0.heap.size W0 wf) := by
      refine ⟨?_, hbF⟩
      rw [HS.out, evItCells_snoc, List.length_append]
      exact hownf
     clear hownf hgrow hat hal hbF hown5 R5 c5
     go_wp2
     go_roundw
     case rel => exact ⟨k + 1, by go_num, HLT.out, HZ.out.1, HZ.out.2⟩
     case measure => have := HLT.out; simp [intOf] <;> omega
   ·have hkb : (e.kind == 1) = false := beq_eq_false_iff_ne.2 hk1
    have HS : Hid ((L.take (k + 1)).filter p = (L.take k).filter p) := HN.out (by rw [HP.out]; show (decide (e.kind = 1) && !decide (e.dot ∈ x.dead)) = false; rw [decide_eq_false hk1, Bool.false_and])
    clear hk1
    go_upto_region 5 with fail
    refine wp_region_after (by kernel_rfl) (by kernel_rfl) (fun WA hWA => ?_)
    have hbA : Below wr.heap.size wr WA := by rw [hWA.out]; go_grown
    have pc1 : ∀ i : After WA, i.w.cell? ⟨w.heap.size, 1, none⟩ = some (.slice (some ⟨A, off, none⟩) L.length x.cK) := fun i => i.cell (kept hbA c1)
    have pc2 : ∀ i : After WA, i.w.cell? ⟨w.heap.size, 2, none⟩ = some (.slice x.ad x.dead.length x.cd) := fun i => i.cell (kept hbA c2)
    have pq0 : ∀ i : After WA, i.w.cell? ⟨A, off + k * 19, none⟩ = some (.int .i64 e.dot.a.dev) := fun i => i.cell (kept hbA q0)
    have pq1 : ∀ i : After WA, i.w.cell? ⟨A, off + k * 19 + 1, none⟩ = some (.int .i64 e.dot.a.inc) := fun i => i.cell (kept hbA q1)
    have pq2 : ∀ i : After WA, i.w.cell? ⟨A, off + k * 19 + 2, none⟩ = some (.int .i64 e.dot.seq) := fun i => i.cell (kept hbA q2)
    have pq6 : ∀ i : After WA, i.w.cell? ⟨A, off + k * 19 + 6, none⟩ = some (.int .i64 e.kind) := fun i => i.cell (kept hbA q6)
    have hdA := hdr.kept hbA
    clear hWA
    iterate 19 go_big_quiet_step (fail)
    refine wpQuiet_nil ?_
    rintro _ ⟨i, rfl⟩
    have hiA := i.h
    generalize i.w = wp at hiA ⊢
    have hbY : Below wr.heap.size wr wp := below2 hbA hiA
    clear hbA hiA hdA pc1 pc2 pq0 pq1 pq2 pq6
    have HZ : Hid (wp.ownsRow W0.heap.size 43 19 u ((L.take (k + 1)).filter p).length (evItCells ((L.take (k + 1)).filter p)) ∧ Below W0.heap.size W0 wp) := by
     refine ⟨?_, hB.trans (hbY.mono hzr)⟩
     rw [HS.out]
     exact ownsRow_below hown hbY
    clear hown hbY
    go_wp2
    go_roundw
    case rel => exact ⟨k + 1, by go_num, HLT.out, HZ.out.1, HZ.out.2⟩
    case measure => have := HLT.out; simp [intOf] <;> omega
  ·obtain rfl : k = L.length := by omega
   rw [List.take_length] at hown
   obtain ⟨aF, cF, rfl, _, hcap⟩ := own_cellsIn hown
   obtain ⟨a2, c2', hF0, hF⟩ := evsIn_own hown (fun z hz => (hE0.dots z (List.mem_filter.1 hz).1).kept hB)
   obtain ⟨rfl, rfl⟩ := slice_inj hF0
   go_wp2
   go_ret
   have hLL : L = x.K := HLe.out
   subst hLL
   exact ⟨aF, cF, rfl, hF, ⟨hcap, own_low hown hz0'⟩, hb0.trans (hB.mono hz0')⟩
/-! ### Key -/
end Go.Proofs.YtpbobhfnglikmaaGreat
