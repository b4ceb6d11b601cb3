/- The reference's map: Alive, Key. Conditions: as in the text. -/
import Derived.Test.YtcijajjngmmbeaaGreatRefO
import Derived.Test.YtcijajjngmmbeaaGreatClockL
set_option linter.unusedSimpArgs false
set_option linter.unusedVariables false
set_option linter.unnecessarySimpa false
namespace Go.Proofs.YtcijajjngmmbeaaGreat
open Go.RowKit

def RetFl (L : List EvIt) (w : World) (e : Ending) (w' : World) : Prop := ∃ a cap, e = .returned (.slice a L.length cap) ∧ EvsIn w' a L ∧ (L.length ≤ cap ∧ w'.ownsRow w.heap.size 42 19 (.slice a L.length cap) L.length (evItCells L)) ∧ Below w.heap.size w w'
theorem own_grown_ne {w w' : World} {base n size : Nat} {e : TypeId} {v v2 : Value} {xs : List Value} (h : w.ownsRow base e size v n xs) (hne : ∀ g, v2.ownBlock = some g → v.ownBlock ≠ some g) (hg : w.grownBy w' v2.ownBlock) : w'.ownsRow base e size v n xs := by
  refine ⟨h.1, ?_⟩
  rcases h.2 with h2 | ⟨g, cap, cur, hv, hbs, hb, rest⟩
  · exact .inl h2
  · exact .inr ⟨g, cap, cur, hv, hbs, (hg.block g (lt_of_block hb) (fun e3 => hne g e3.symm (by rw [hv]; rfl))).trans hb, rest⟩
theorem filt_yes {p : EvIt → Bool} {l : List EvIt} {k : Nat} (h : k < l.length) (hp : p l[k] = true) : (l.take (k + 1)).filter p = (l.take k).filter p ++ [l[k]] := by
  rw [List.take_add_one, List.getElem?_eq_getElem h, List.filter_append]
  simp [hp]
theorem filt_no {p : EvIt → Bool} {l : List EvIt} {k : Nat} (h : k < l.length) (hp : p l[k] = false) : (l.take (k + 1)).filter p = (l.take k).filter p := by
  rw [List.take_add_one, List.getElem?_eq_getElem h, List.filter_append]
  simp [hp]
def aliveB (dead : List Dot) (z : EvIt) : Bool := decide (z.1.kind = 1) && !decide (z.1.dot ∈ dead)

set_option maxRecDepth 100000 in
set_option maxHeartbeats 4000000 in
theorem rAlive21_any (x : RMIt) (w : World) (hK : x.K.length ≤ 4096) (hdl : x.dead.length ≤ 1048576) (hI : RMIn w x) :
    Calls Tryz.prog 71 #[rmVal x] w (RetFl (x.K.filter (aliveB x.dead)) w) := by
  obtain ⟨i0, hiE, hz0, hz1, hz2⟩ := info_parts Tryz.infoEv
  have HH := Lib.hid (fun (d : Dot) (X : World) (h : DotsIn X x.ad x.dead) => rHasD_any x.ad x.cd x.dead d X (by omega) h)
  obtain ⟨p, hp⟩ : ∃ p, p = aliveB x.dead := ⟨_, rfl⟩
  rw [← hp]
  have HP := Lib.hid hp
  clear hp
  obtain ⟨L, hL⟩ : ∃ L, L = x.K := ⟨_, rfl⟩
  go_enter Tryz.func71, Tryz.ntmps71
  go_upto_region 1 with fail
  refine wp_name (fun W0 hW0 => ?_)
  have hb0 : Below w.heap.size w W0 := by rw [hW0.out]; go_grown
  have C1 : W0.cell? ⟨w.heap.size, 1, none⟩ = some (.slice x.aK x.K.length x.cK) := by rw [hW0.out]; go_simp
  have C2 : W0.cell? ⟨w.heap.size, 2, none⟩ = some (.slice x.ad x.dead.length x.cd) := by rw [hW0.out]; go_simp
  have hE0 := hI.kept.kept hb0
  have hd0 := hI.dead.kept hb0
  have hz0' := hb0.size
  clear hW0 hI
  go_wp2
  have hown0 : (W0.alloc (Obj.cells #[] 42)).ownsRow W0.heap.size 42 19 (.slice (some ⟨W0.heap.size, 0, none⟩) 0 0) 0 [] := World.ownsRow_made _ _ _ (Nat.le_refl _) (by decide) rfl
  have hbM : Below W0.heap.size W0 (W0.alloc (Obj.cells #[] 42)) := (Below.refl _ _).alloc (Nat.le_refl _) _
  rw [← hL] at hE0 hK ⊢
  have HLe := Lib.hid hL
  have hLl : L.length = x.K.length := by rw [hL]
  rw [← hLl] at C1
  clear hL hLl
  go_loopw [3, 4] (fun u i wr => ∃ k : Nat, i = .int .i64 k ∧ k ≤ L.length ∧ wr.ownsRow W0.heap.size 42 19 u ((L.take k).filter p).length (evItCells ((L.take k).filter p)) ∧ Below W0.heap.size W0 wr) (fun _ i _ => L.length - (intOf i).toNat)
  case atStart => exact ⟨0, rfl, Nat.zero_le _, hown0, hbM⟩
  case round =>
    obtain ⟨k, rfl, hk, hown, hB⟩ := hrel
    clear hown0 hbM
    have c1 := kept hB C1
    have c2 := kept hB C2
    have hzr := hB.size
    have hfl : ((L.take k).filter p).length ≤ 4096 := by
      have h1 := List.length_filter_le p (L.take k)
      rw [List.length_take] at h1
      omega
    obtain ⟨u, hu⟩ : ∃ u, u = u3 := ⟨_, rfl⟩
    rw [← hu] at hown ⊢
    clear hu
    by_cases hlt : k < L.length
    · obtain ⟨A, off, haK, hra, _⟩ := (hE0.kept hB).at hlt
      rw [haK] at c1
      have r1 := hra k hlt
      have HY := Lib.hid (fun h => filt_yes (p := p) hlt h)
      have HN := Lib.hid (fun h => filt_no (p := p) hlt h)
      have HLT := Lib.hid hlt
      have hkl : k ≤ 4096 := by omega
      have HH1 := fun (X : World) (h : DotsIn X x.ad x.dead) => HH.out L[k].1.dot X h
      generalize L[k] = z at *
      obtain ⟨e, ax, cx⟩ := z
      simp only [itEv] at r1
      simp only at HH1
      have q0 := r1 0 _ rfl
      have q1 := r1 1 _ rfl
      have q2 := r1 2 _ rfl
      have q6 := r1 6 _ rfl
      simp only [Nat.add_zero] at q0
      have hdr := hd0.kept hB
      clear hra haK
      by_cases hk1 : e.kind = 1
      · have hkb : (e.kind == 1) = true := beq_iff_eq.2 hk1
        by_cases hde : e.dot ∈ x.dead
        · rw [decide_eq_true hde] at HH1
          have HS : Hid ((L.take (k + 1)).filter p = (L.take k).filter p) := HN.out (by rw [HP.out]; show (decide (e.kind = 1) && !decide (e.dot ∈ x.dead)) = false; rw [decide_eq_true hde, Bool.not_true, Bool.and_false])
          clear hde hk1
          go_upto_region 5 with fail
          refine wp_region_after (by kernel_rfl) (by kernel_rfl) (fun WA hWA => ?_)
          have hbA : Below wr.heap.size wr WA := by rw [hWA.out]; go_grown
          have pc1 : ∀ i : After WA, i.w.cell? ⟨w.heap.size, 1, none⟩ = some (.slice (some ⟨A, off, none⟩) L.length x.cK) := fun i => i.cell (kept hbA c1)
          have pc2 : ∀ i : After WA, i.w.cell? ⟨w.heap.size, 2, none⟩ = some (.slice x.ad x.dead.length x.cd) := fun i => i.cell (kept hbA c2)
          have pq0 : ∀ i : After WA, i.w.cell? ⟨A, off + k * 19, none⟩ = some (.int .i64 e.dot.a.dev) := fun i => i.cell (kept hbA q0)
          have pq1 : ∀ i : After WA, i.w.cell? ⟨A, off + k * 19 + 1, none⟩ = some (.int .i64 e.dot.a.inc) := fun i => i.cell (kept hbA q1)
          have pq2 : ∀ i : After WA, i.w.cell? ⟨A, off + k * 19 + 2, none⟩ = some (.int .i64 e.dot.seq) := fun i => i.cell (kept hbA q2)
          have pq6 : ∀ i : After WA, i.w.cell? ⟨A, off + k * 19 + 6, none⟩ = some (.int .i64 e.kind) := fun i => i.cell (kept hbA q6)
          have hdA := hdr.kept hbA
          clear hWA
          go_big_quiet_step (fail)
          go_big_quiet_step (fail)
          go_big_quiet_step (fail)
          go_big_quiet_step (fail)
          go_big_quiet_step (fail)
          go_big_quiet_step (fail)
          go_big_quiet_step (fail)
          go_big_quiet_step (fail)
          go_big_quiet_step (fail)
          go_big_quiet_step (fail)
          go_big_quiet_step (fail)
          go_big_quiet_step (fail)
          go_big_quiet_step (fail)
          go_big_quiet_step (fail)
          go_big_quiet_step (fail)
          go_big_quiet_step (fail)
          go_big_quiet_step (exact Calls.after (HH1 _ (hdA.kept (After.h _))))
          go_big_quiet_step (fail)
          go_big_quiet_step (fail)
          refine wpQuiet_nil ?_
          rintro _ ⟨i, rfl⟩
          have hiA := i.h
          generalize i.w = wp at hiA ⊢
          have hbY : Below wr.heap.size wr wp := below2 hbA hiA
          clear hbA hiA hdA pc1 pc2 pq0 pq1 pq2 pq6
          have HZ : Hid (wp.ownsRow W0.heap.size 42 19 u ((L.take (k + 1)).filter p).length (evItCells ((L.take (k + 1)).filter p)) ∧ Below W0.heap.size W0 wp) := by
            refine ⟨?_, hB.trans (hbY.mono hzr)⟩
            rw [HS.out]
            exact ownsRow_below hown hbY
          clear hown hbY
          go_wp2
          go_roundw
          case rel => exact ⟨k + 1, by go_num, HLT.out, HZ.out.1, HZ.out.2⟩
          case measure => have := HLT.out; simp [intOf] <;> omega
        · rw [decide_eq_false hde] at HH1
          have HS : Hid ((L.take (k + 1)).filter p = (L.take k).filter p ++ [(e, ax, cx)]) := HY.out (by rw [HP.out]; show (decide (e.kind = 1) && !decide (e.dot ∈ x.dead)) = true; rw [decide_eq_true hk1, decide_eq_false hde]; rfl)
          clear hde hk1
          go_upto_region 5 with fail
          refine wp_region_after (by kernel_rfl) (by kernel_rfl) (fun WA hWA => ?_)
          have hbA : Below wr.heap.size wr WA := by rw [hWA.out]; go_grown
          have pc1 : ∀ i : After WA, i.w.cell? ⟨w.heap.size, 1, none⟩ = some (.slice (some ⟨A, off, none⟩) L.length x.cK) := fun i => i.cell (kept hbA c1)
          have pc2 : ∀ i : After WA, i.w.cell? ⟨w.heap.size, 2, none⟩ = some (.slice x.ad x.dead.length x.cd) := fun i => i.cell (kept hbA c2)
          have pq0 : ∀ i : After WA, i.w.cell? ⟨A, off + k * 19, none⟩ = some (.int .i64 e.dot.a.dev) := fun i => i.cell (kept hbA q0)
          have pq1 : ∀ i : After WA, i.w.cell? ⟨A, off + k * 19 + 1, none⟩ = some (.int .i64 e.dot.a.inc) := fun i => i.cell (kept hbA q1)
          have pq2 : ∀ i : After WA, i.w.cell? ⟨A, off + k * 19 + 2, none⟩ = some (.int .i64 e.dot.seq) := fun i => i.cell (kept hbA q2)
          have pq6 : ∀ i : After WA, i.w.cell? ⟨A, off + k * 19 + 6, none⟩ = some (.int .i64 e.kind) := fun i => i.cell (kept hbA q6)
          have hdA := hdr.kept hbA
          clear hWA
          go_big_quiet_step (fail)
          go_big_quiet_step (fail)
          go_big_quiet_step (fail)
          go_big_quiet_step (fail)
          go_big_quiet_step (fail)
          go_big_quiet_step (fail)
          go_big_quiet_step (fail)
          go_big_quiet_step (fail)
          go_big_quiet_step (fail)
          go_big_quiet_step (fail)
          go_big_quiet_step (fail)
          go_big_quiet_step (fail)
          go_big_quiet_step (fail)
          go_big_quiet_step (fail)
          go_big_quiet_step (fail)
          go_big_quiet_step (fail)
          go_big_quiet_step (exact Calls.after (HH1 _ (hdA.kept (After.h _))))
          go_big_quiet_step (fail)
          go_big_quiet_step (fail)
          refine wpQuiet_nil ?_
          rintro _ ⟨i, rfl⟩
          have hiA := i.h
          generalize i.w = wp at hiA ⊢
          have hbY : Below wr.heap.size wr wp := below2 hbA hiA
          clear hbA hiA hdA pc1 pc2 pq0 pq1 pq2 pq6
          have c5 := kept hbY c1
          have R5 := rangeAt_kept r1 hbY
          have hown5 := ownsRow_below hown hbY
          replace hB := hB.trans (hbY.mono hzr)
          have hz5 := hB.size
          clear r1 hown hbY c1
          go_wp2_with (first
            | ((with_reducible refine wpList_load_evo _ A (off + k * 19) e ax cx R5 ?_ rfl ?_); exact rfl)
            | (refine wpList_buildOne rfl 22 42 _ rfl (evCells e ax cx).toArray 19 rfl rfl (by decide) (by decide) Tryz.underlying22 (by kernel_rfl) (by kernel_rfl) ?_)
            | (at_builtin; go_loud (refine wpList_append_own_at _ rfl _ _ 22 rfl W0.heap.size 42 i0 (.agg (evCells ev0 none 0).toArray) 19 176 Tryz.underlying22 hiE hz0 hz1 hz2 rfl (by decide) _ _ _ rfl (hown5.alloc _) ⟨wp.heap.size, 0, none⟩ 1 1 (evCells e ax cx) rfl rfl (evs_new wp e ax cx _) (evCells_one _ _ _) (by unfold maxLen; omega) (by omega) (by simp; omega) ?_)))
          intro v' wf hownf hgrow _ hat
          have hal : Below wp.heap.size wp (wp.alloc (Obj.cells (evCells e ax cx).toArray 42)) := (Below.refl _ _).alloc (Nat.le_refl _) _
          have hbF : Below W0.heap.size W0 wf := (hB.trans (hal.mono hz5)).grown hgrow (by have := hal.size; omega) (fun j hj => (hown5.lt j hj).1)
          have HZ : Hid (wf.ownsRow W0.heap.size 42 19 v' ((L.take (k + 1)).filter p).length (evItCells ((L.take (k + 1)).filter p)) ∧ Below W0.heap.size W0 wf) := by
            refine ⟨?_, hbF⟩
            rw [HS.out, evItCells_snoc, List.length_append]
            exact hownf
          clear hownf hgrow hat hal hbF hown5 R5 c5
          go_wp2
          go_roundw
          case rel => exact ⟨k + 1, by go_num, HLT.out, HZ.out.1, HZ.out.2⟩
          case measure => have := HLT.out; simp [intOf] <;> omega
      · have hkb : (e.kind == 1) = false := beq_eq_false_iff_ne.2 hk1
        have HS : Hid ((L.take (k + 1)).filter p = (L.take k).filter p) := HN.out (by rw [HP.out]; show (decide (e.kind = 1) && !decide (e.dot ∈ x.dead)) = false; rw [decide_eq_false hk1, Bool.false_and])
        clear hk1
        go_upto_region 5 with fail
        refine wp_region_after (by kernel_rfl) (by kernel_rfl) (fun WA hWA => ?_)
        have hbA : Below wr.heap.size wr WA := by rw [hWA.out]; go_grown
        have pc1 : ∀ i : After WA, i.w.cell? ⟨w.heap.size, 1, none⟩ = some (.slice (some ⟨A, off, none⟩) L.length x.cK) := fun i => i.cell (kept hbA c1)
        have pc2 : ∀ i : After WA, i.w.cell? ⟨w.heap.size, 2, none⟩ = some (.slice x.ad x.dead.length x.cd) := fun i => i.cell (kept hbA c2)
        have pq0 : ∀ i : After WA, i.w.cell? ⟨A, off + k * 19, none⟩ = some (.int .i64 e.dot.a.dev) := fun i => i.cell (kept hbA q0)
        have pq1 : ∀ i : After WA, i.w.cell? ⟨A, off + k * 19 + 1, none⟩ = some (.int .i64 e.dot.a.inc) := fun i => i.cell (kept hbA q1)
        have pq2 : ∀ i : After WA, i.w.cell? ⟨A, off + k * 19 + 2, none⟩ = some (.int .i64 e.dot.seq) := fun i => i.cell (kept hbA q2)
        have pq6 : ∀ i : After WA, i.w.cell? ⟨A, off + k * 19 + 6, none⟩ = some (.int .i64 e.kind) := fun i => i.cell (kept hbA q6)
        have hdA := hdr.kept hbA
        clear hWA
        go_big_quiet_step (fail)
        go_big_quiet_step (fail)
        go_big_quiet_step (fail)
        go_big_quiet_step (fail)
        go_big_quiet_step (fail)
        go_big_quiet_step (fail)
        go_big_quiet_step (fail)
        go_big_quiet_step (fail)
        go_big_quiet_step (fail)
        go_big_quiet_step (fail)
        go_big_quiet_step (fail)
        go_big_quiet_step (fail)
        go_big_quiet_step (fail)
        go_big_quiet_step (fail)
        go_big_quiet_step (fail)
        go_big_quiet_step (fail)
        go_big_quiet_step (fail)
        go_big_quiet_step (fail)
        go_big_quiet_step (fail)
        refine wpQuiet_nil ?_
        rintro _ ⟨i, rfl⟩
        have hiA := i.h
        generalize i.w = wp at hiA ⊢
        have hbY : Below wr.heap.size wr wp := below2 hbA hiA
        clear hbA hiA hdA pc1 pc2 pq0 pq1 pq2 pq6
        have HZ : Hid (wp.ownsRow W0.heap.size 42 19 u ((L.take (k + 1)).filter p).length (evItCells ((L.take (k + 1)).filter p)) ∧ Below W0.heap.size W0 wp) := by
          refine ⟨?_, hB.trans (hbY.mono hzr)⟩
          rw [HS.out]
          exact ownsRow_below hown hbY
        clear hown hbY
        go_wp2
        go_roundw
        case rel => exact ⟨k + 1, by go_num, HLT.out, HZ.out.1, HZ.out.2⟩
        case measure => have := HLT.out; simp [intOf] <;> omega
    · obtain rfl : k = L.length := by omega
      rw [List.take_length] at hown
      obtain ⟨aF, cF, rfl, _, hcap⟩ := own_cellsIn hown
      obtain ⟨a2, c2', hF0, hF⟩ := evsIn_own hown (fun z hz => (hE0.dots z (List.mem_filter.1 hz).1).kept hB)
      obtain ⟨rfl, rfl⟩ := slice_inj hF0
      go_wp2
      go_ret
      have hLL : L = x.K := HLe.out
      subst hLL
      exact ⟨aF, cF, rfl, hF, ⟨hcap, own_low hown hz0'⟩, hb0.trans (hB.mono hz0')⟩

/-! ### Key -/
def keyB (k : Key) (z : EvIt) : Bool := decide (z.1.key = k)
set_option maxRecDepth 100000 in
set_option maxHeartbeats 4000000 in
theorem rKey21_any (x : RMIt) (ky : Key) (w : World) (hK : x.K.length ≤ 4096) (hdl : x.dead.length ≤ 1048576) (hI : RMIn w x) :
    Calls Tryz.prog 23 #[rmVal x, keyVal ky] w (RetFl ((x.K.filter (aliveB x.dead)).filter (keyB ky)) w) := by
  obtain ⟨i0, hiE, hz0, hz1, hz2⟩ := info_parts Tryz.infoEv
  have HAl := Lib.hid (fun (X : World) (h : RMIn X x) => rAlive21_any x X hK hdl h)
  obtain ⟨p, hp⟩ : ∃ p, p = keyB ky := ⟨_, rfl⟩
  rw [← hp]
  have HP := Lib.hid hp
  have hLK : (x.K.filter (aliveB x.dead)).length ≤ 4096 := Nat.le_trans (List.length_filter_le _ _) hK
  obtain ⟨L, hL⟩ : ∃ L, L = x.K.filter (aliveB x.dead) := ⟨_, rfl⟩
  rw [← hL] at hLK HAl ⊢
  have HLe := Lib.hid hL
  clear hp hL hK hdl
  go_enter Tryz.func23, Tryz.ntmps23
  go_upto_region 1 with fail
  refine wp_name (fun V hV => ?_)
  have hb0 : Below w.heap.size w V := by rw [hV.out]; go_grown
  have x0 : V.cell? ⟨w.heap.size, 0, none⟩ = some (.slice x.ac x.ctx.length x.cc) := by rw [hV.out]; go_simp
  have x1 : V.cell? ⟨w.heap.size, 1, none⟩ = some (.slice x.aK x.K.length x.cK) := by rw [hV.out]; go_simp
  have x2 : V.cell? ⟨w.heap.size, 2, none⟩ = some (.slice x.ad x.dead.length x.cd) := by rw [hV.out]; go_simp
  have K0 : V.cell? ⟨w.heap.size + 1, 0, none⟩ = some (.string ky.name) := by rw [hV.out]; go_simp
  have K1 : V.cell? ⟨w.heap.size + 1, 1, none⟩ = some (.string ky.domain) := by rw [hV.out]; go_simp
  have K2 : V.cell? ⟨w.heap.size + 1, 2, none⟩ = some (.string ky.path) := by rw [hV.out]; go_simp
  have hI0 := hI.keep hb0
  have hbM : Below V.heap.size V (V.alloc (Obj.cells #[] 42)) := (Below.refl _ _).alloc (Nat.le_refl _) _
  have hown0 : (V.alloc (Obj.cells #[] 42)).ownsRow V.heap.size 42 19 (.slice (some ⟨V.heap.size, 0, none⟩) 0 0) 0 [] := World.ownsRow_made _ _ _ (Nat.le_refl _) (by decide) rfl
  clear hV hI
  go_upto_region 2 with fail
  refine wp_name (fun V1 hV1 => ?_)
  have hV1e : V1 = V.alloc (Obj.cells #[] 42) := hV1.out
  have HSV : Hid (V1.heap.size = V.heap.size + 1) := by unfold Hid; rw [hV1e]; simp
  rw [← hV1e] at hbM hown0
  have hI1 := hI0.keep hbM
  replace x0 := kept hbM x0
  replace x1 := kept hbM x1
  replace x2 := kept hbM x2
  clear hV1 hV1e
  have hdots : ∀ z ∈ L, DotsIn V z.2.1 z.1.over := fun z hz => hI0.kept.dots z (List.mem_filter.1 (by rw [HLe.out] at hz; exact hz)).1
  clear hI0
  go_wp2_with (go_at_call 71; (with_reducible refine (HAl.out _ hI1).mono ?_); rintro v W0 ⟨aA, cA, rfl, hE0, ⟨_, hLr⟩, hb1⟩)
  have hbV0 : Below V.heap.size V W0 := hbM.trans (hb1.mono hbM.size)
  have hownA := ownsRow_below hown0 hb1
  have hbW0 : Below w.heap.size w W0 := hb0.trans (hbV0.mono hb0.size)
  have hzV := hbV0.size
  have hneA : ∀ g, (Value.slice (some ⟨V.heap.size, 0, none⟩) 0 0).ownBlock = some g → (Value.slice aA L.length cA).ownBlock ≠ some g := fun g hg e9 => by
    have h9 := (hLr.lt g e9).1
    have h8 := HSV.out
    simp [Value.ownBlock] at hg
    omega
  generalize hBK : w.heap.size + 1 = BK at *
  have C0 := kept hbV0 K0
  have C1 := kept hbV0 K1
  have C2 := kept hbV0 K2
  have HBW := Lib.hid hb0
  clear x0 x1 x2 hown0 hbM hb1 hI1 hb0 hBK HAl hE0
  go_loopw [5, 7] (fun u i wr => ∃ k : Nat, i = .int .i64 k ∧ k ≤ L.length ∧ wr.ownsRow V.heap.size 42 19 u ((L.take k).filter p).length (evItCells ((L.take k).filter p)) ∧ (∀ g, u.ownBlock = some g → (Value.slice aA L.length cA).ownBlock ≠ some g) ∧ wr.ownsRow V1.heap.size 42 19 (.slice aA L.length cA) L.length (evItCells L) ∧ Below V.heap.size V wr) (fun _ i _ => L.length - (intOf i).toNat)
  case atStart => exact ⟨0, rfl, Nat.zero_le _, hownA, hneA, hLr, hbV0⟩
  case round =>
    obtain ⟨k, rfl, hk, hown, hne, hLw, hB⟩ := hrel
    clear hownA hneA hLr hbV0 hbW0 C0 C1 C2
    have k0 := kept hB K0
    have k1 := kept hB K1
    have k2 := kept hB K2
    have hzr := hB.size
    have hfl : ((L.take k).filter p).length ≤ 4096 := by
      have h1 := List.length_filter_le p (L.take k)
      rw [List.length_take] at h1
      omega
    obtain ⟨u, hu⟩ : ∃ u, u = u5 := ⟨_, rfl⟩
    rw [← hu] at hown hne ⊢
    clear hu
    by_cases hlt : k < L.length
    · obtain ⟨a9, c9, he9, hE9⟩ := evsIn_own hLw (fun z hz => (hdots z hz).kept hB)
      obtain ⟨rfl, rfl⟩ := slice_inj he9
      obtain ⟨A, off, rfl, hra, _⟩ := hE9.at hlt
      have r1 := hra k hlt
      have HY := Lib.hid (fun h => filt_yes (p := p) hlt h)
      have HN := Lib.hid (fun h => filt_no (p := p) hlt h)
      have HLT := Lib.hid hlt
      have hkl : k ≤ 4096 := by omega
      have hEq := fun (W : World) => eqKey W 9998 L[k].1.key ky
      have hm := noGuardKey
      generalize L[k] = z at *
      obtain ⟨e, ax, cx⟩ := z
      simp only [itEv] at r1
      simp only at hEq
      have q7 := r1 7 _ rfl
      have q8 := r1 8 _ rfl
      have q9 := r1 9 _ rfl
      clear hra hE9 he9
      have HLW := Lib.hid hLw
      have HNE := Lib.hid hne
      clear hLw hne
      by_cases hke : e.key = ky
      · rw [decide_eq_true hke] at hEq
        have HS : Hid ((L.take (k + 1)).filter p = (L.take k).filter p ++ [(e, ax, cx)]) := HY.out (by rw [HP.out]; exact decide_eq_true hke)
        clear hke
        go_upto_region 6 with fail
        refine wp_region_after (by kernel_rfl) (by kernel_rfl) (fun WA hWA => ?_)
        have hbA : Below wr.heap.size wr WA := by rw [hWA.out]; go_grown
        have pk0 : ∀ i : After WA, i.w.cell? ⟨BK, 0, none⟩ = some (.string ky.name) := fun i => i.cell (kept hbA k0)
        have pk1 : ∀ i : After WA, i.w.cell? ⟨BK, 1, none⟩ = some (.string ky.domain) := fun i => i.cell (kept hbA k1)
        have pk2 : ∀ i : After WA, i.w.cell? ⟨BK, 2, none⟩ = some (.string ky.path) := fun i => i.cell (kept hbA k2)
        have pq7 : ∀ i : After WA, i.w.cell? ⟨A, off + k * 19 + 7, none⟩ = some (.string e.key.name) := fun i => i.cell (kept hbA q7)
        have pq8 : ∀ i : After WA, i.w.cell? ⟨A, off + k * 19 + 8, none⟩ = some (.string e.key.domain) := fun i => i.cell (kept hbA q8)
        have pq9 : ∀ i : After WA, i.w.cell? ⟨A, off + k * 19 + 9, none⟩ = some (.string e.key.path) := fun i => i.cell (kept hbA q9)
        clear hWA
        go_big_quiet_step (fail)
        go_big_quiet_step (fail)
        go_big_quiet_step (fail)
        go_big_quiet_step (fail)
        go_big_quiet_step (fail)
        go_big_quiet_step (fail)
        go_big_quiet_step (fail)
        refine wpQuiet_nil ?_
        rintro _ ⟨i, rfl⟩
        have hiA := i.h
        generalize i.w = wp at hiA ⊢
        have hbY : Below wr.heap.size wr wp := below2 hbA hiA
        clear hbA hiA pk0 pk1 pk2 pq7 pq8 pq9
        have R5 := rangeAt_kept r1 hbY
        have hown5 := ownsRow_below hown hbY
        have hLw5 := ownsRow_below HLW.out hbY
        replace hB := hB.trans (hbY.mono hzr)
        have hz5 := hB.size
        clear r1 hown hbY k0 k1 k2 q7 q8 q9
        go_wp2_with (first
          | ((with_reducible refine wpList_load_evo _ A (off + k * 19) e ax cx R5 ?_ rfl ?_); exact rfl)
          | (refine wpList_buildOne rfl 22 42 _ rfl (evCells e ax cx).toArray 19 rfl rfl (by decide) (by decide) Tryz.underlying22 (by kernel_rfl) (by kernel_rfl) ?_)
          | (at_builtin; go_loud (refine wpList_append_own_at _ rfl _ _ 22 rfl V.heap.size 42 i0 (.agg (evCells ev0 none 0).toArray) 19 176 Tryz.underlying22 hiE hz0 hz1 hz2 rfl (by decide) _ _ _ rfl (hown5.alloc _) ⟨wp.heap.size, 0, none⟩ 1 1 (evCells e ax cx) rfl rfl (evs_new wp e ax cx _) (evCells_one _ _ _) (by unfold maxLen; omega) (by omega) (by simp; omega) ?_)))
        intro v' wf hownf hgrow _ hat
        have hal : Below wp.heap.size wp (wp.alloc (Obj.cells (evCells e ax cx).toArray 42)) := (Below.refl _ _).alloc (Nat.le_refl _) _
        have hbF : Below V.heap.size V wf := (hB.trans (hal.mono hz5)).grown hgrow (by have := hal.size; omega) (fun j hj => (hown5.lt j hj).1)
        have hLf := own_grown_ne (hLw5.alloc _) (fun g hg => HNE.out g hg) hgrow
        have hnef : ∀ g, v'.ownBlock = some g → (Value.slice (some ⟨A, off, none⟩) L.length cA).ownBlock ≠ some g := fun g hg e9 => by
          rcases hat with h9 | h9
          · exact HNE.out g (h9.symm.trans hg) e9
          · rw [h9] at hg
            simp only [Option.some.injEq, World.size_alloc] at hg
            have := (hLw5.lt g e9).2
            omega
        have HZ : Hid (wf.ownsRow V.heap.size 42 19 v' ((L.take (k + 1)).filter p).length (evItCells ((L.take (k + 1)).filter p)) ∧ (∀ g, v'.ownBlock = some g → (Value.slice (some ⟨A, off, none⟩) L.length cA).ownBlock ≠ some g) ∧ wf.ownsRow V1.heap.size 42 19 (.slice (some ⟨A, off, none⟩) L.length cA) L.length (evItCells L) ∧ Below V.heap.size V wf) := by
          refine ⟨?_, hnef, hLf, hbF⟩
          rw [HS.out, evItCells_snoc, List.length_append]
          exact hownf
        clear hownf hgrow hat hal hbF hown5 hLw5 hLf hnef R5
        go_wp2
        go_roundw
        case rel => exact ⟨k + 1, by go_num, HLT.out, HZ.out.1, HZ.out.2.1, HZ.out.2.2.1, HZ.out.2.2.2⟩
        case measure => have := HLT.out; simp [intOf] <;> omega
      · rw [decide_eq_false hke] at hEq
        have HS : Hid ((L.take (k + 1)).filter p = (L.take k).filter p) := HN.out (by rw [HP.out]; exact decide_eq_false hke)
        clear hke
        go_upto_region 6 with fail
        refine wp_region_after (by kernel_rfl) (by kernel_rfl) (fun WA hWA => ?_)
        have hbA : Below wr.heap.size wr WA := by rw [hWA.out]; go_grown
        have pk0 : ∀ i : After WA, i.w.cell? ⟨BK, 0, none⟩ = some (.string ky.name) := fun i => i.cell (kept hbA k0)
        have pk1 : ∀ i : After WA, i.w.cell? ⟨BK, 1, none⟩ = some (.string ky.domain) := fun i => i.cell (kept hbA k1)
        have pk2 : ∀ i : After WA, i.w.cell? ⟨BK, 2, none⟩ = some (.string ky.path) := fun i => i.cell (kept hbA k2)
        have pq7 : ∀ i : After WA, i.w.cell? ⟨A, off + k * 19 + 7, none⟩ = some (.string e.key.name) := fun i => i.cell (kept hbA q7)
        have pq8 : ∀ i : After WA, i.w.cell? ⟨A, off + k * 19 + 8, none⟩ = some (.string e.key.domain) := fun i => i.cell (kept hbA q8)
        have pq9 : ∀ i : After WA, i.w.cell? ⟨A, off + k * 19 + 9, none⟩ = some (.string e.key.path) := fun i => i.cell (kept hbA q9)
        clear hWA
        go_big_quiet_step (fail)
        go_big_quiet_step (fail)
        go_big_quiet_step (fail)
        go_big_quiet_step (fail)
        go_big_quiet_step (fail)
        go_big_quiet_step (fail)
        go_big_quiet_step (fail)
        refine wpQuiet_nil ?_
        rintro _ ⟨i, rfl⟩
        have hiA := i.h
        generalize i.w = wp at hiA ⊢
        have hbY : Below wr.heap.size wr wp := below2 hbA hiA
        clear hbA hiA pk0 pk1 pk2 pq7 pq8 pq9
        have HZ : Hid (wp.ownsRow V.heap.size 42 19 u ((L.take (k + 1)).filter p).length (evItCells ((L.take (k + 1)).filter p)) ∧ wp.ownsRow V1.heap.size 42 19 (.slice (some ⟨A, off, none⟩) L.length cA) L.length (evItCells L) ∧ Below V.heap.size V wp) := by
          refine ⟨?_, ownsRow_below HLW.out hbY, hB.trans (hbY.mono hzr)⟩
          rw [HS.out]
          exact ownsRow_below hown hbY
        clear hown hbY
        go_wp2
        go_roundw
        case rel => exact ⟨k + 1, by go_num, HLT.out, HZ.out.1, HNE.out, HZ.out.2.1, HZ.out.2.2⟩
        case measure => have := HLT.out; simp [intOf] <;> omega
    · obtain rfl : k = L.length := by omega
      rw [List.take_length] at hown
      obtain ⟨aF, cF, rfl, _, hcap⟩ := own_cellsIn hown
      obtain ⟨a2, c2', hF0, hF⟩ := evsIn_own hown (fun z hz => (hdots z (List.mem_filter.1 hz).1).kept hB)
      obtain ⟨rfl, rfl⟩ := slice_inj hF0
      go_wp2
      go_ret
      exact ⟨aF, cF, rfl, hF, ⟨hcap, own_low hown HBW.out.size⟩, HBW.out.trans (hB.mono HBW.out.size)⟩
end Go.Proofs.YtcijajjngmmbeaaGreat
