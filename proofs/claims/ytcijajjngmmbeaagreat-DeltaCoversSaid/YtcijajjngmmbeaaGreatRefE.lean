/- The reference's events: put. Conditions: at most 2^20 of them. -/
import Derived.Test.YtcijajjngmmbeaaGreatRefS
import Derived.Test.YtcijajjngmmbeaaGreatOrmH
import Derived.Test.YtcijajjngmmbeaaGreatTrod
set_option linter.unusedSimpArgs false
set_option linter.unusedVariables false
set_option linter.unnecessarySimpa false
namespace Go.Proofs.YtcijajjngmmbeaaGreat
open Go.RowKit

theorem flat_take {α : Type} {f : α → List Value} {n : Nat} (hf : ∀ x, (f x).length = n) : ∀ (l : List α) (k : Nat), (l.flatMap f).take (k * n) = (l.take k).flatMap f
  | l, 0 => by simp
  | [], k + 1 => by simp
  | g :: l, k + 1 => by
    rw [show (k + 1) * n = n + k * n by rw [Nat.add_mul]; omega, List.take_succ_cons, List.flatMap_cons, List.flatMap_cons, ← flat_take hf l k, List.take_append, hf g, List.take_of_length_le (by rw [hf g]; omega)]
    simp
theorem flat_drop {α : Type} {f : α → List Value} {n : Nat} (hf : ∀ x, (f x).length = n) : ∀ (l : List α) (k : Nat), (l.flatMap f).drop (k * n) = (l.drop k).flatMap f
  | l, 0 => by simp
  | [], k + 1 => by simp
  | g :: l, k + 1 => by
    rw [show (k + 1) * n = n + k * n by rw [Nat.add_mul]; omega, List.drop_succ_cons, List.flatMap_cons, ← flat_drop hf l k, List.drop_append, hf g, List.drop_of_length_le (by rw [hf g]; omega)]
    simp
theorem itEv_len (x : EvIt) : (itEv x).length = 19 := rfl
theorem evIt_take (l : List EvIt) (k : Nat) : (evItCells l).take (k * 19) = evItCells (l.take k) := flat_take itEv_len l k
theorem evIt_drop (l : List EvIt) (k : Nat) : (evItCells l).drop (k * 19) = evItCells (l.drop k) := flat_drop itEv_len l k
theorem evIt_length (l : List EvIt) : (evItCells l).length = l.length * 19 := by
  induction l with
  | nil => rfl
  | cons x l ih =>
    show (itEv x ++ evItCells l).length = _
    rw [List.length_append, ih, itEv_len, List.length_cons]
    omega
theorem evIt_one (l : List EvIt) : ∀ u ∈ evItCells l, u.oneCell' = true := by
  intro u hu
  obtain ⟨x, _, hx⟩ := List.mem_flatMap.1 hu
  exact evCells_one _ _ _ u hx
theorem EvsIn.cells {w : World} {a : Option Addr} {ls : List EvIt} (h : EvsIn w a ls) : CellsIn w a (evItCells ls) := by
  rcases h.rows with h1 | ⟨A, off, h1, h2⟩
  · exact Or.inl (by rw [h1]; rfl)
  · exact Or.inr ⟨A, off, h1, range_flat itEv 19 ls off fun i hi => ⟨itEv_len _, h2 i hi⟩⟩
theorem ev_cells_new (w : World) (e : Ev) (a : Option Addr) (c : Nat) : CellsIn (w.alloc (.cells (evCells e a c).toArray 42)) (some ⟨w.heap.size, 0, none⟩) (evCells e a c) := by
  refine Or.inr ⟨_, _, rfl, fun j v hv => ?_⟩
  rw [Nat.zero_add, World.cell?_alloc_new]
  simpa using hv
/-- how many are ahead of a dot -/
def aheadE (l : List EvIt) (d : Dot) : Nat := (l.takeWhile fun x => dotLt x.1.dot d).length
theorem aheadE_yes {l : List EvIt} {d : Dot} {k : Nat} (h : k < l.length) (hp : dotLt l[k].1.dot d = true) : aheadE (l.drop k) d = aheadE (l.drop (k + 1)) d + 1 := by
  unfold aheadE
  rw [List.drop_eq_getElem_cons h, List.takeWhile_cons]
  simp only [hp, if_true, List.length_cons]
theorem aheadE_no {l : List EvIt} {d : Dot} {k : Nat} (h : k < l.length) (hp : dotLt l[k].1.dot d = false) : aheadE (l.drop k) d = 0 := by
  unfold aheadE
  rw [List.drop_eq_getElem_cons h, List.takeWhile_cons]
  simp only [hp, Bool.false_eq_true, if_false, List.length_nil]
def insEI (l : List EvIt) (x : EvIt) : List EvIt := l.take (aheadE l x.1.dot) ++ x :: l.drop (aheadE l x.1.dot)
/-- one event more, by its dot -/
def insE (e : Ev) : List Ev → List Ev
  | [] => [e]
  | x :: l => if dotLt x.dot e.dot = true then x :: insE e l else e :: x :: l
theorem evsOf_ins (x : EvIt) : ∀ l : List EvIt, evsOf (insEI l x) = insE x.1 (evsOf l)
  | [] => rfl
  | y :: l => by
    have ih := evsOf_ins x l
    show evsOf (insEI (y :: l) x) = insE x.1 (y.1 :: evsOf l)
    cases hy : dotLt y.1.dot x.1.dot with
    | true =>
      have e : aheadE (y :: l) x.1.dot = aheadE l x.1.dot + 1 := by unfold aheadE; rw [List.takeWhile_cons]; simp [hy]
      unfold insE
      rw [if_pos hy, ← ih]
      unfold insEI
      rw [e]
      simp [evsOf]
    | false =>
      have e : aheadE (y :: l) x.1.dot = 0 := by unfold aheadE; rw [List.takeWhile_cons]; simp [hy]
      unfold insE insEI
      rw [if_neg (by rw [hy]; decide), e]
      simp [evsOf]
theorem insEI_len (l : List EvIt) (x : EvIt) : (insEI l x).length = l.length + 1 := by
  have h : aheadE l x.1.dot ≤ l.length := List.Sublist.length_le (List.takeWhile_sublist _)
  unfold insEI
  rw [List.length_append, List.length_cons, List.length_take, List.length_drop]
  omega
theorem insEI_mem {l : List EvIt} {x y : EvIt} (h : y ∈ insEI l x) : y = x ∨ y ∈ l := by
  unfold insEI at h
  rcases List.mem_append.1 h with h | h
  · exact Or.inr (List.mem_of_mem_take h)
  · rcases List.mem_cons.1 h with h | h
    · exact Or.inl h
    · exact Or.inr (List.mem_of_mem_drop h)

def RetIns (ls : List EvIt) (w : World) (x : Ending) (w' : World) : Prop := ∃ a c, x = .returned (.slice a ls.length c) ∧ w'.ownsRow w.heap.size 42 19 (.slice a ls.length c) ls.length (evItCells ls) ∧ EvsIn w' a ls ∧ ls.length ≤ c ∧ Below w.heap.size w w'
set_option maxRecDepth 100000 in
set_option maxHeartbeats 8000000 in
theorem rPutE_any (a ae : Option Addr) (cap ce : Nat) (ls : List EvIt) (e : Ev) (w : World) (hl : ls.length ≤ 1048576) (hlc : ls.length ≤ cap) (hE : EvsIn w a ls) (hd : DotsIn w ae e.over) :
    Calls Tryz.prog 85 #[.slice a ls.length cap, evVal e ae ce] w (RetIns (insEI ls (e, ae, ce)) w) := by
  obtain ⟨i0, hi, hz0, hz1, hz2⟩ := info_parts Tryz.infoEv
  have HL := Lib.hid (fun (x y : Dot) (X : World) => rLess_any x y X)
  go_enter Tryz.func85, Tryz.ntmps85
  go_upto_region 1 with fail
  refine wp_name (fun W0 hW0 => ?_)
  have hb0 : Below w.heap.size w W0 := by rw [hW0.out]; go_grown
  have hR0 : W0.rangeAt w.heap.size 0 (evCells e ae ce) := by rw [hW0.out]; exact evCells_box e ae ce w _
  have HR := Lib.hid hR0
  have D0 := hR0 0 _ rfl
  have D1 := hR0 1 _ rfl
  have D2 := hR0 2 _ rfl
  simp only [Nat.zero_add] at D0 D1 D2
  have hE0 := hE.kept hb0
  have HC := Lib.hid hE0.cells
  have HD : Hid (∀ x ∈ insEI ls (e, ae, ce), DotsIn W0 x.2.1 x.1.over) := fun x hx => by
    rcases insEI_mem hx with rfl | hx
    · exact hd.kept hb0
    · exact hE0.dots x hx
  have hz0' := hb0.size
  clear hW0 hR0 hE hd
  go_wp2
  go_loopw [5] (fun i wr => ∃ q : Nat, i = .int .i64 q ∧ q ≤ ls.length ∧ aheadE ls e.dot = q + aheadE (ls.drop q) e.dot ∧ Below W0.heap.size W0 wr) (fun i _ => ls.length - (intOf i).toNat)
  case atStart => exact ⟨0, rfl, Nat.zero_le _, by simp, Below.refl _ _⟩
  case round =>
    obtain ⟨q, rfl, hq, hA0, hB⟩ := hrel
    have HA := Lib.hid hA0
    have HQ := Lib.hid hq
    clear hA0
    by_cases hqt : q < ls.length
    · obtain ⟨A, off, rfl, hra, _⟩ := hE0.at hqt
      have r1 := hra q hqt
      have HY := Lib.hid (fun (h : dotLt ls[q].1.dot e.dot = true) => aheadE_yes hqt h)
      have HN := Lib.hid (fun (h : dotLt ls[q].1.dot e.dot = false) => aheadE_no hqt h)
      have HL1 := fun (X : World) => HL.out ls[q].1.dot e.dot X
      have HQT := Lib.hid hqt
      have hql : q ≤ 1048576 := by omega
      generalize ls[q] = y2 at *
      obtain ⟨y, ay, cy⟩ := y2
      simp only [itEv] at r1
      simp only at HY HN HL1
      have F0 := r1 0 _ rfl
      have F1 := r1 1 _ rfl
      have F2 := r1 2 _ rfl
      simp only [Nat.add_zero] at F0
      clear hra r1
      cases hly : dotLt y.dot e.dot with
      | true =>
        rw [hly] at HL1
        have HA2 : Hid (aheadE ls e.dot = q + 1 + aheadE (ls.drop (q + 1)) e.dot) := by unfold Hid; rw [HA.out, HY.out hly]; omega
        clear hly
        go_upto_region 2 with fail
        refine wp_region_after (by kernel_rfl) (by kernel_rfl) (fun WA hWA => ?_)
        have hbA : Below wr.heap.size wr WA := by rw [hWA.out]; go_grown
        have hBA : Below W0.heap.size W0 WA := hB.trans (hbA.mono hB.size)
        have pD0 : ∀ i : After WA, i.w.cell? ⟨w.heap.size, 0, none⟩ = some (.int .i64 e.dot.a.dev) := fun i => i.cell (kept hBA D0)
        have pD1 : ∀ i : After WA, i.w.cell? ⟨w.heap.size, 1, none⟩ = some (.int .i64 e.dot.a.inc) := fun i => i.cell (kept hBA D1)
        have pD2 : ∀ i : After WA, i.w.cell? ⟨w.heap.size, 2, none⟩ = some (.int .i64 e.dot.seq) := fun i => i.cell (kept hBA D2)
        have pF0 : ∀ i : After WA, i.w.cell? ⟨A, off + q * 19, none⟩ = some (.int .i64 y.dot.a.dev) := fun i => i.cell (kept hBA F0)
        have pF1 : ∀ i : After WA, i.w.cell? ⟨A, off + q * 19 + 1, none⟩ = some (.int .i64 y.dot.a.inc) := fun i => i.cell (kept hBA F1)
        have pF2 : ∀ i : After WA, i.w.cell? ⟨A, off + q * 19 + 2, none⟩ = some (.int .i64 y.dot.seq) := fun i => i.cell (kept hBA F2)
        clear hWA hBA
        go_big_quiet_step (fail)
        go_big_quiet_step (fail)
        go_big_quiet_step (fail)
        go_big_quiet_step (fail)
        go_big_quiet_step (fail)
        go_big_quiet_step (fail)
        go_big_quiet_step (fail)
        go_big_quiet_step (fail)
        go_big_quiet_step (fail)
        go_big_quiet_step (fail)
        go_big_quiet_step (fail)
        go_big_quiet_step (fail)
        go_big_quiet_step (exact Calls.after (HL1 _))
        go_big_quiet_step (fail)
        refine wpQuiet_nil ?_
        rintro _ ⟨i, rfl⟩
        have hiA := i.h
        generalize i.w = wp at hiA ⊢
        have hbY : Below wr.heap.size wr wp := below2 hbA hiA
        replace hB := hB.trans (hbY.mono hB.size)
        clear hbA hiA hbY pD0 pD1 pD2 pF0 pF1 pF2
        have HB2 := Lib.hid hB
        clear hB
        go_wp2
        go_roundw
        case rel => exact ⟨q + 1, by go_num, HQT.out, HA2.out, HB2.out⟩
        case measure => have := HQT.out; simp [intOf] <;> omega
      | false =>
        rw [hly] at HL1
        have HI : Hid (aheadE ls e.dot = q) := by unfold Hid; rw [HA.out, HN.out hly]; omega
        clear hly
        go_upto_region 2 with fail
        refine wp_region_after (by kernel_rfl) (by kernel_rfl) (fun WA hWA => ?_)
        have hbA : Below wr.heap.size wr WA := by rw [hWA.out]; go_grown
        have hBA : Below W0.heap.size W0 WA := hB.trans (hbA.mono hB.size)
        have pD0 : ∀ i : After WA, i.w.cell? ⟨w.heap.size, 0, none⟩ = some (.int .i64 e.dot.a.dev) := fun i => i.cell (kept hBA D0)
        have pD1 : ∀ i : After WA, i.w.cell? ⟨w.heap.size, 1, none⟩ = some (.int .i64 e.dot.a.inc) := fun i => i.cell (kept hBA D1)
        have pD2 : ∀ i : After WA, i.w.cell? ⟨w.heap.size, 2, none⟩ = some (.int .i64 e.dot.seq) := fun i => i.cell (kept hBA D2)
        have pF0 : ∀ i : After WA, i.w.cell? ⟨A, off + q * 19, none⟩ = some (.int .i64 y.dot.a.dev) := fun i => i.cell (kept hBA F0)
        have pF1 : ∀ i : After WA, i.w.cell? ⟨A, off + q * 19 + 1, none⟩ = some (.int .i64 y.dot.a.inc) := fun i => i.cell (kept hBA F1)
        have pF2 : ∀ i : After WA, i.w.cell? ⟨A, off + q * 19 + 2, none⟩ = some (.int .i64 y.dot.seq) := fun i => i.cell (kept hBA F2)
        clear hWA hBA
        go_big_quiet_step (fail)
        go_big_quiet_step (fail)
        go_big_quiet_step (fail)
        go_big_quiet_step (fail)
        go_big_quiet_step (fail)
        go_big_quiet_step (fail)
        go_big_quiet_step (fail)
        go_big_quiet_step (fail)
        go_big_quiet_step (fail)
        go_big_quiet_step (fail)
        go_big_quiet_step (fail)
        go_big_quiet_step (fail)
        go_big_quiet_step (exact Calls.after (HL1 _))
        go_big_quiet_step (fail)
        refine wpQuiet_nil ?_
        rintro _ ⟨i, rfl⟩
        have hiA := i.h
        generalize i.w = wp at hiA ⊢
        have hbY : Below wr.heap.size wr wp := below2 hbA hiA
        replace hB := hB.trans (hbY.mono hB.size)
        clear hbA hiA hbY pD0 pD1 pD2 pF0 pF1 pF2
        go_upto_region 4 with fail
        refine wp_name (fun W hW => ?_)
        have hbW : Below wp.heap.size wp W.drew := by rw [hW.out]; go_grown
        have hBW : Below W0.heap.size W0 W.drew := hB.trans (hbW.mono hB.size)
        have hinW := HC.out.kept hBW
        have hzW := hBW.size
        have hq := HQ.out
        have hcut : ∀ X, (Instr.sliceAt 22 (.slice (some ⟨A, off, none⟩) ls.length cap) none (some (.int .i64 (q : Nat))) none).run Tryz.prog X = .ok (.slice (some ⟨A, off, none⟩) q cap) X := fun X => run_cut_hi X _ _ i0 (some ⟨A, off, none⟩) ls.length cap .i64 q Tryz.underlying22 hi (by omega)
        have hcut2 : ∀ X, (Instr.sliceAt 22 (.slice (some ⟨A, off, none⟩) ls.length cap) (some (.int .i64 (q : Nat))) none none).run Tryz.prog X = .ok (.slice (cutA (some ⟨A, off, none⟩) cap q 19) (ls.length - q) (cap - q)) X := fun X => run_cut_lo X _ _ i0 (some ⟨A, off, none⟩) ls.length cap .i64 q 19 Tryz.underlying22 hi hz1 (by omega)
        have hR1 : ∀ X, Below W.drew.heap.size W.drew X → CellsIn X (some ⟨A, off, none⟩) (evItCells (ls.take q)) := fun X h => by rw [← evIt_take]; exact (hinW.kept h).take _
        have hR2 : ∀ X, Below W.drew.heap.size W.drew X → CellsIn X (cutA (some ⟨A, off, none⟩) cap q 19) (evItCells (ls.drop q)) := fun X h => by rw [← evIt_drop]; exact (hinW.kept h).cut (evIt_length ls) hlc q
        have l1 : (evItCells (ls.take q)).length = q * 19 := by rw [evIt_length, List.length_take, Nat.min_eq_left hq]
        have l2 : (evItCells (ls.drop q)).length = (ls.length - q) * 19 := by rw [evIt_length, List.length_drop]
        have hF : ∀ X, Below W.drew.heap.size W.drew X → X.rangeAt w.heap.size 0 (evCells e ae ce) := fun X h => rangeAt_kept (rangeAt_kept HR.out hBW) h
        clear hW
        refine wp_region_noPanic ?_
        refine wp_region_held_drew (S := fun W' => Below W.drew.heap.size W.drew W') (by kernel_rfl) (Below.refl _ _) (fun hHeld => ?_)
        refine wpAnyH_take (i := 1) (oi := ⟨some 23, _, _, _, _, _⟩) (v := ?_) rfl (by kernel_rfl) (by kernel_rfl) (by kernel_rfl) (fun _ _ _ h => h) (Or.inl ⟨by rfl, ?_⟩) (by assumption) ?_
        case refine_2 => (intro w hSw; go_simp; try with_reducible rfl)
        try simp only [Act.put, List.setIfInBounds_toArray, List.set_cons_zero, List.set_cons_succ]
        refine wpAnyH_take (i := 2) (oi := ⟨some 24, _, _, _, _, _⟩) (v := ?_) rfl (by kernel_rfl) (by kernel_rfl) (by kernel_rfl) (fun _ _ _ h => h) (Or.inl ⟨by rfl, ?_⟩) (by assumption) ?_
        case refine_2 => (intro w hSw; go_simp; try with_reducible rfl)
        try simp only [Act.put, List.setIfInBounds_toArray, List.set_cons_zero, List.set_cons_succ]
        refine wpAnyH_take (i := 3) (oi := ⟨some 25, _, _, _, _, _⟩) rfl (by kernel_rfl) (by kernel_rfl) (by kernel_rfl) (fun _ _ _ h => h) (Or.inl ⟨by rfl, fun W hSW => exec_slice _ _ _ _ _ rfl _ (hcut W)⟩) (by assumption) ?_
        try simp only [Act.put, List.setIfInBounds_toArray, List.set_cons_zero, List.set_cons_succ]
        refine wpAnyH_take (i := 5) (oi := ⟨some 27, _, _, _, _, _⟩) rfl (by kernel_rfl) (by kernel_rfl) (by kernel_rfl) (fun _ _ _ h => h) (yieldsIf_load_mid (by rfl) 42 _ rfl w.heap.size 0 rfl (evCells e ae ce) _ (fun X h => hF X h) Tryz.underlying42 rfl (by kernel_rfl)) (by assumption) ?_
        try simp only [Act.put, List.setIfInBounds_toArray, List.set_cons_zero, List.set_cons_succ]
        refine wpAnyH_take (i := 8) (oi := ⟨some 30, _, _, _, _, _⟩) (v := ?_) rfl (by kernel_rfl) (by kernel_rfl) (by kernel_rfl) (fun _ _ _ h => h) (Or.inl ⟨by rfl, ?_⟩) (by assumption) ?_
        case refine_2 => (intro w hSw; go_simp; try with_reducible rfl)
        try simp only [Act.put, List.setIfInBounds_toArray, List.set_cons_zero, List.set_cons_succ]
        refine wpAnyH_take (i := 9) (oi := ⟨some 31, _, _, _, _, _⟩) (v := ?_) rfl (by kernel_rfl) (by kernel_rfl) (by kernel_rfl) (fun _ _ _ h => h) (Or.inl ⟨by rfl, ?_⟩) (by assumption) ?_
        case refine_2 => (intro w hSw; go_simp; try with_reducible rfl)
        try simp only [Act.put, List.setIfInBounds_toArray, List.set_cons_zero, List.set_cons_succ]
        refine wpAnyH_take (i := 10) (oi := ⟨some 32, _, _, _, _, _⟩) rfl (by kernel_rfl) (by kernel_rfl) (by kernel_rfl) (fun _ _ _ h => h) (Or.inl ⟨by rfl, fun W hSW => exec_slice _ _ _ _ _ rfl _ (hcut2 W)⟩) (by assumption) ?_
        try simp only [Act.put, List.setIfInBounds_toArray, List.set_cons_zero, List.set_cons_succ]
        refine wpAnyH_ready (rs := [0, 6]) (by kernel_rfl) (by simp) ?_
        refine AllReadyH.cons (o := ⟨some 22, _, _, _, _, _⟩) rfl (fun K hK => ?_) (AllReadyH.cons (o := ⟨some 28, _, _, _, _, _⟩) rfl (fun K hK => ?_) AllReadyH.nil)
        · skip
          refine step_build_nil (by rfl) 22 42 rfl i0 _ 19 Tryz.underlying22 hi hz0 hz1 (by decide) ?_
          intro v0 X0 hown0 hbel0
          refine hK.out _ _ ?_ (fun hHeld2 => ?_)
          · exact hHeld.trans (hbel0.mono hHeld.size)
          clear hK K hHeld
          have hHeld := hHeld2
          clear hHeld2
          try simp only [Act.put, List.setIfInBounds_toArray, List.set_cons_zero, List.set_cons_succ]
          refine wpAnyH_ready (rs := [4, 6]) (by kernel_rfl) (by simp) ?_
          refine AllReadyH.cons (o := ⟨some 26, _, _, _, _, _⟩) rfl (fun K hK => ?_) (AllReadyH.cons (o := ⟨some 28, _, _, _, _, _⟩) rfl (fun K hK => ?_) AllReadyH.nil)
          · skip
            refine step_append_cells (by rfl) (.tmp 22) (.tmp 25) 22 rfl W.drew.heap.size 42 i0 _ 19 176 Tryz.underlying22 hi hz0 hz1 hz2 rfl (by decide) _ 0 _ rfl hown0 (some ⟨A, off, none⟩) q cap (evItCells (ls.take q)) rfl l1 (hR1 _ hHeld) (evIt_one _) (by first | omega | (unfold maxLen; omega)) (by first | omega | (unfold maxLen; omega)) hHeld.size ?_
            intro v1 X1 hown1 hg1
            refine hK.out _ _ ?_ (fun hHeld2 => ?_)
            · exact hHeld.grown hg1 hHeld.size (fun k hk => (hown0.lt k hk).1)
            clear hK K hHeld
            have hHeld := hHeld2
            clear hHeld2
            try simp only [Act.put, List.setIfInBounds_toArray, List.set_cons_zero, List.set_cons_succ]
            refine wpAnyH_ready (rs := [6]) (by kernel_rfl) (by simp) ?_
            refine AllReadyH.cons (o := ⟨some 28, _, _, _, _, _⟩) rfl (fun K hK => ?_) AllReadyH.nil
            refine step_build_one (by rfl) 22 42 _ rfl (evCells e ae ce).toArray 19 rfl rfl (by decide) (by decide) Tryz.underlying22 (by kernel_rfl) (by kernel_rfl) ?_
            refine hK.out _ _ ?_ (fun hHeld2 => ?_)
            · exact hHeld.alloc hHeld.size _
            clear hK K hHeld
            have hHeld := hHeld2
            clear hHeld2
            try simp only [Act.put, List.setIfInBounds_toArray, List.set_cons_zero, List.set_cons_succ]
            have hN := (fun X => ev_cells_new X e ae ce) X1
            refine wpAnyH_ready (rs := [7]) (by kernel_rfl) (by simp) ?_
            refine AllReadyH.cons (o := ⟨some 29, _, _, _, _, _⟩) rfl (fun K hK => ?_) AllReadyH.nil
            refine step_append_cells (by rfl) (.tmp 26) (.tmp 28) 22 rfl W.drew.heap.size 42 i0 _ 19 176 Tryz.underlying22 hi hz0 hz1 hz2 rfl (by decide) _ (0 + q) _ rfl (hown1.alloc _) (some ⟨X1.heap.size, 0, none⟩) 1 1 (evCells e ae ce) rfl rfl hN (evCells_one _ _ _) (by first | omega | (unfold maxLen; omega)) (by first | omega | (unfold maxLen; omega)) hHeld.size ?_
            intro v2 X2 hown2 hg2
            refine hK.out _ _ ?_ (fun hHeld2 => ?_)
            · exact hHeld.grown hg2 hHeld.size (fun k hk => (hown1.lt k hk).1)
            clear hK K hHeld
            have hHeld := hHeld2
            clear hHeld2
            try simp only [Act.put, List.setIfInBounds_toArray, List.set_cons_zero, List.set_cons_succ]
            refine wpAnyH_ready (rs := [11]) (by kernel_rfl) (by simp) ?_
            refine AllReadyH.cons (o := ⟨some 33, _, _, _, _, _⟩) rfl (fun K hK => ?_) AllReadyH.nil
            refine step_append_cells (by rfl) (.tmp 29) (.tmp 32) 22 rfl W.drew.heap.size 42 i0 _ 19 176 Tryz.underlying22 hi hz0 hz1 hz2 rfl (by decide) _ (0 + q + 1) _ rfl hown2 (cutA (some ⟨A, off, none⟩) cap q 19) (ls.length - q) (cap - q) (evItCells (ls.drop q)) rfl l2 (hR2 _ hHeld) (evIt_one _) (by first | omega | (unfold maxLen; omega)) (by first | omega | (unfold maxLen; omega)) hHeld.size ?_
            intro v3 X3 hown3 hg3
            refine hK.out _ _ ?_ (fun hHeld2 => ?_)
            · exact hHeld.grown hg3 hHeld.size (fun k hk => (hown2.lt k hk).1)
            clear hK K hHeld
            have hHeld := hHeld2
            clear hHeld2
            try simp only [Act.put, List.setIfInBounds_toArray, List.set_cons_zero, List.set_cons_succ]
            refine wpAnyH_take (i := 12) (oi := ⟨some 4, _, _, _, _, _⟩) (v := ?_) rfl (by kernel_rfl) (by kernel_rfl) (by kernel_rfl) (fun _ _ _ h => h) (Or.inl ⟨by rfl, ?_⟩) (by assumption) ?_
            case refine_2 => (intro w hSw; go_simp; try with_reducible rfl)
            try simp only [Act.put, List.setIfInBounds_toArray, List.set_cons_zero, List.set_cons_succ]
            refine wpAnyH_done (by kernel_rfl) ?_ _
            refine NoPanic.normal ?_
            have e1 : [] ++ evItCells (ls.take q) ++ evCells e ae ce ++ evItCells (ls.drop q) = evItCells (insEI ls (e, ae, ce)) := by unfold insEI; rw [HI.out]; simp [evItCells]
            have e2 : 0 + q + 1 + (ls.length - q) = (insEI ls (e, ae, ce)).length := by rw [insEI_len]; omega
            rw [e1, e2] at hown3
            obtain ⟨a2, c2, rfl, hcell2, hc2⟩ := own_cellsIn hown3
            obtain ⟨a3, c3, he3, hin3⟩ := evsIn_own hown3 (fun x hx => (HD.out x hx).kept (hBW.trans (hHeld.mono hzW)))
            obtain ⟨rfl, rfl⟩ : a2 = a3 ∧ c2 = c3 := by cases he3; exact ⟨rfl, rfl⟩
            have HZ := Lib.hid (And.intro (own_low hown3 (Nat.le_trans hz0' hzW)) (And.intro hin3 (And.intro hc2 (hb0.trans ((hBW.trans (hHeld.mono hzW)).mono hz0')))))
            clear e1 e2 hR1 hR2 l1 l2 hF hcut hcut2 hown3 hHeld hinW hBW hbW hin3 hcell2 hc2 he3
            go_wp2
            go_ret
            exact ⟨a2, c2, rfl, HZ.out.1, HZ.out.2.1, HZ.out.2.2.1, HZ.out.2.2.2⟩
          · skip
            refine step_build_one (by rfl) 22 42 _ rfl (evCells e ae ce).toArray 19 rfl rfl (by decide) (by decide) Tryz.underlying22 (by kernel_rfl) (by kernel_rfl) ?_
            refine hK.out _ _ ?_ (fun hHeld2 => ?_)
            · exact hHeld.alloc hHeld.size _
            clear hK K hHeld
            have hHeld := hHeld2
            clear hHeld2
            try simp only [Act.put, List.setIfInBounds_toArray, List.set_cons_zero, List.set_cons_succ]
            have hN := (fun X => ev_cells_new X e ae ce) X0
            refine wpAnyH_ready (rs := [4]) (by kernel_rfl) (by simp) ?_
            refine AllReadyH.cons (o := ⟨some 26, _, _, _, _, _⟩) rfl (fun K hK => ?_) AllReadyH.nil
            refine step_append_cells (by rfl) (.tmp 22) (.tmp 25) 22 rfl W.drew.heap.size 42 i0 _ 19 176 Tryz.underlying22 hi hz0 hz1 hz2 rfl (by decide) _ 0 _ rfl (hown0.alloc _) (some ⟨A, off, none⟩) q cap (evItCells (ls.take q)) rfl l1 (hR1 _ hHeld) (evIt_one _) (by first | omega | (unfold maxLen; omega)) (by first | omega | (unfold maxLen; omega)) hHeld.size ?_
            intro v1 X1 hown1 hg1
            refine hK.out _ _ ?_ (fun hHeld2 => ?_)
            · exact hHeld.grown hg1 hHeld.size (fun k hk => (hown0.lt k hk).1)
            clear hK K hHeld
            have hHeld := hHeld2
            clear hHeld2
            try simp only [Act.put, List.setIfInBounds_toArray, List.set_cons_zero, List.set_cons_succ]
            replace hN := hN.grown hg1 (fun q hq e => by have := (hown0.lt _ e).2; simp only [Option.some.injEq] at hq; subst hq; simp only at this; omega)
            refine wpAnyH_ready (rs := [7]) (by kernel_rfl) (by simp) ?_
            refine AllReadyH.cons (o := ⟨some 29, _, _, _, _, _⟩) rfl (fun K hK => ?_) AllReadyH.nil
            refine step_append_cells (by rfl) (.tmp 26) (.tmp 28) 22 rfl W.drew.heap.size 42 i0 _ 19 176 Tryz.underlying22 hi hz0 hz1 hz2 rfl (by decide) _ (0 + q) _ rfl hown1 (some ⟨X0.heap.size, 0, none⟩) 1 1 (evCells e ae ce) rfl rfl hN (evCells_one _ _ _) (by first | omega | (unfold maxLen; omega)) (by first | omega | (unfold maxLen; omega)) hHeld.size ?_
            intro v2 X2 hown2 hg2
            refine hK.out _ _ ?_ (fun hHeld2 => ?_)
            · exact hHeld.grown hg2 hHeld.size (fun k hk => (hown1.lt k hk).1)
            clear hK K hHeld
            have hHeld := hHeld2
            clear hHeld2
            try simp only [Act.put, List.setIfInBounds_toArray, List.set_cons_zero, List.set_cons_succ]
            refine wpAnyH_ready (rs := [11]) (by kernel_rfl) (by simp) ?_
            refine AllReadyH.cons (o := ⟨some 33, _, _, _, _, _⟩) rfl (fun K hK => ?_) AllReadyH.nil
            refine step_append_cells (by rfl) (.tmp 29) (.tmp 32) 22 rfl W.drew.heap.size 42 i0 _ 19 176 Tryz.underlying22 hi hz0 hz1 hz2 rfl (by decide) _ (0 + q + 1) _ rfl hown2 (cutA (some ⟨A, off, none⟩) cap q 19) (ls.length - q) (cap - q) (evItCells (ls.drop q)) rfl l2 (hR2 _ hHeld) (evIt_one _) (by first | omega | (unfold maxLen; omega)) (by first | omega | (unfold maxLen; omega)) hHeld.size ?_
            intro v3 X3 hown3 hg3
            refine hK.out _ _ ?_ (fun hHeld2 => ?_)
            · exact hHeld.grown hg3 hHeld.size (fun k hk => (hown2.lt k hk).1)
            clear hK K hHeld
            have hHeld := hHeld2
            clear hHeld2
            try simp only [Act.put, List.setIfInBounds_toArray, List.set_cons_zero, List.set_cons_succ]
            refine wpAnyH_take (i := 12) (oi := ⟨some 4, _, _, _, _, _⟩) (v := ?_) rfl (by kernel_rfl) (by kernel_rfl) (by kernel_rfl) (fun _ _ _ h => h) (Or.inl ⟨by rfl, ?_⟩) (by assumption) ?_
            case refine_2 => (intro w hSw; go_simp; try with_reducible rfl)
            try simp only [Act.put, List.setIfInBounds_toArray, List.set_cons_zero, List.set_cons_succ]
            refine wpAnyH_done (by kernel_rfl) ?_ _
            refine NoPanic.normal ?_
            have e1 : [] ++ evItCells (ls.take q) ++ evCells e ae ce ++ evItCells (ls.drop q) = evItCells (insEI ls (e, ae, ce)) := by unfold insEI; rw [HI.out]; simp [evItCells]
            have e2 : 0 + q + 1 + (ls.length - q) = (insEI ls (e, ae, ce)).length := by rw [insEI_len]; omega
            rw [e1, e2] at hown3
            obtain ⟨a2, c2, rfl, hcell2, hc2⟩ := own_cellsIn hown3
            obtain ⟨a3, c3, he3, hin3⟩ := evsIn_own hown3 (fun x hx => (HD.out x hx).kept (hBW.trans (hHeld.mono hzW)))
            obtain ⟨rfl, rfl⟩ : a2 = a3 ∧ c2 = c3 := by cases he3; exact ⟨rfl, rfl⟩
            have HZ := Lib.hid (And.intro (own_low hown3 (Nat.le_trans hz0' hzW)) (And.intro hin3 (And.intro hc2 (hb0.trans ((hBW.trans (hHeld.mono hzW)).mono hz0')))))
            clear e1 e2 hR1 hR2 l1 l2 hF hcut hcut2 hown3 hHeld hinW hBW hbW hin3 hcell2 hc2 he3
            go_wp2
            go_ret
            exact ⟨a2, c2, rfl, HZ.out.1, HZ.out.2.1, HZ.out.2.2.1, HZ.out.2.2.2⟩
        · skip
          refine step_build_one (by rfl) 22 42 _ rfl (evCells e ae ce).toArray 19 rfl rfl (by decide) (by decide) Tryz.underlying22 (by kernel_rfl) (by kernel_rfl) ?_
          refine hK.out _ _ ?_ (fun hHeld2 => ?_)
          · exact hHeld.alloc hHeld.size _
          clear hK K hHeld
          have hHeld := hHeld2
          clear hHeld2
          try simp only [Act.put, List.setIfInBounds_toArray, List.set_cons_zero, List.set_cons_succ]
          have hN := (fun X => ev_cells_new X e ae ce) W.drew
          refine wpAnyH_ready (rs := [0]) (by kernel_rfl) (by simp) ?_
          refine AllReadyH.cons (o := ⟨some 22, _, _, _, _, _⟩) rfl (fun K hK => ?_) AllReadyH.nil
          refine step_build_nil (by rfl) 22 42 rfl i0 _ 19 Tryz.underlying22 hi hz0 hz1 (by decide) ?_
          intro v0 X0 hown0 hbel0
          refine hK.out _ _ ?_ (fun hHeld2 => ?_)
          · exact hHeld.trans (hbel0.mono hHeld.size)
          clear hK K hHeld
          have hHeld := hHeld2
          clear hHeld2
          try simp only [Act.put, List.setIfInBounds_toArray, List.set_cons_zero, List.set_cons_succ]
          replace hN := hN.kept hbel0
          have hownB := hown0
          replace hown0 := own_base hown0 (b2 := W.drew.heap.size) (by first | exact Nat.le_refl _ | simp)
          refine wpAnyH_ready (rs := [4]) (by kernel_rfl) (by simp) ?_
          refine AllReadyH.cons (o := ⟨some 26, _, _, _, _, _⟩) rfl (fun K hK => ?_) AllReadyH.nil
          refine step_append_cells (by rfl) (.tmp 22) (.tmp 25) 22 rfl W.drew.heap.size 42 i0 _ 19 176 Tryz.underlying22 hi hz0 hz1 hz2 rfl (by decide) _ 0 _ rfl hown0 (some ⟨A, off, none⟩) q cap (evItCells (ls.take q)) rfl l1 (hR1 _ hHeld) (evIt_one _) (by first | omega | (unfold maxLen; omega)) (by first | omega | (unfold maxLen; omega)) hHeld.size ?_
          intro v1 X1 hown1 hg1
          refine hK.out _ _ ?_ (fun hHeld2 => ?_)
          · exact hHeld.grown hg1 hHeld.size (fun k hk => (hown0.lt k hk).1)
          clear hK K hHeld
          have hHeld := hHeld2
          clear hHeld2
          try simp only [Act.put, List.setIfInBounds_toArray, List.set_cons_zero, List.set_cons_succ]
          replace hN := hN.grown hg1 (fun q hq e => by have := (hownB.lt _ e).1; simp only [Option.some.injEq] at hq; subst hq; simp at this; omega)
          refine wpAnyH_ready (rs := [7]) (by kernel_rfl) (by simp) ?_
          refine AllReadyH.cons (o := ⟨some 29, _, _, _, _, _⟩) rfl (fun K hK => ?_) AllReadyH.nil
          refine step_append_cells (by rfl) (.tmp 26) (.tmp 28) 22 rfl W.drew.heap.size 42 i0 _ 19 176 Tryz.underlying22 hi hz0 hz1 hz2 rfl (by decide) _ (0 + q) _ rfl hown1 (some ⟨W.drew.heap.size, 0, none⟩) 1 1 (evCells e ae ce) rfl rfl hN (evCells_one _ _ _) (by first | omega | (unfold maxLen; omega)) (by first | omega | (unfold maxLen; omega)) hHeld.size ?_
          intro v2 X2 hown2 hg2
          refine hK.out _ _ ?_ (fun hHeld2 => ?_)
          · exact hHeld.grown hg2 hHeld.size (fun k hk => (hown1.lt k hk).1)
          clear hK K hHeld
          have hHeld := hHeld2
          clear hHeld2
          try simp only [Act.put, List.setIfInBounds_toArray, List.set_cons_zero, List.set_cons_succ]
          refine wpAnyH_ready (rs := [11]) (by kernel_rfl) (by simp) ?_
          refine AllReadyH.cons (o := ⟨some 33, _, _, _, _, _⟩) rfl (fun K hK => ?_) AllReadyH.nil
          refine step_append_cells (by rfl) (.tmp 29) (.tmp 32) 22 rfl W.drew.heap.size 42 i0 _ 19 176 Tryz.underlying22 hi hz0 hz1 hz2 rfl (by decide) _ (0 + q + 1) _ rfl hown2 (cutA (some ⟨A, off, none⟩) cap q 19) (ls.length - q) (cap - q) (evItCells (ls.drop q)) rfl l2 (hR2 _ hHeld) (evIt_one _) (by first | omega | (unfold maxLen; omega)) (by first | omega | (unfold maxLen; omega)) hHeld.size ?_
          intro v3 X3 hown3 hg3
          refine hK.out _ _ ?_ (fun hHeld2 => ?_)
          · exact hHeld.grown hg3 hHeld.size (fun k hk => (hown2.lt k hk).1)
          clear hK K hHeld
          have hHeld := hHeld2
          clear hHeld2
          try simp only [Act.put, List.setIfInBounds_toArray, List.set_cons_zero, List.set_cons_succ]
          refine wpAnyH_take (i := 12) (oi := ⟨some 4, _, _, _, _, _⟩) (v := ?_) rfl (by kernel_rfl) (by kernel_rfl) (by kernel_rfl) (fun _ _ _ h => h) (Or.inl ⟨by rfl, ?_⟩) (by assumption) ?_
          case refine_2 => (intro w hSw; go_simp; try with_reducible rfl)
          try simp only [Act.put, List.setIfInBounds_toArray, List.set_cons_zero, List.set_cons_succ]
          refine wpAnyH_done (by kernel_rfl) ?_ _
          refine NoPanic.normal ?_
          have e1 : [] ++ evItCells (ls.take q) ++ evCells e ae ce ++ evItCells (ls.drop q) = evItCells (insEI ls (e, ae, ce)) := by unfold insEI; rw [HI.out]; simp [evItCells]
          have e2 : 0 + q + 1 + (ls.length - q) = (insEI ls (e, ae, ce)).length := by rw [insEI_len]; omega
          rw [e1, e2] at hown3
          obtain ⟨a2, c2, rfl, hcell2, hc2⟩ := own_cellsIn hown3
          obtain ⟨a3, c3, he3, hin3⟩ := evsIn_own hown3 (fun x hx => (HD.out x hx).kept (hBW.trans (hHeld.mono hzW)))
          obtain ⟨rfl, rfl⟩ : a2 = a3 ∧ c2 = c3 := by cases he3; exact ⟨rfl, rfl⟩
          have HZ := Lib.hid (And.intro (own_low hown3 (Nat.le_trans hz0' hzW)) (And.intro hin3 (And.intro hc2 (hb0.trans ((hBW.trans (hHeld.mono hzW)).mono hz0')))))
          clear e1 e2 hR1 hR2 l1 l2 hF hcut hcut2 hown3 hHeld hinW hBW hbW hin3 hcell2 hc2 he3
          go_wp2
          go_ret
          exact ⟨a2, c2, rfl, HZ.out.1, HZ.out.2.1, HZ.out.2.2.1, HZ.out.2.2.2⟩
    · have HI : Hid (aheadE ls e.dot = q) := by unfold Hid; rw [HA.out, List.drop_eq_nil_of_le (by omega)]; rfl
      have hqd : decide (q < ls.length) = false := decide_eq_false hqt
      have hqi : decide ((q : Int) < (ls.length : Int)) = false := decide_eq_false (by omega)
      go_upto_region 2 with fail
      refine wp_region_after (by kernel_rfl) (by kernel_rfl) (fun WA hWA => ?_)
      have hbA : Below wr.heap.size wr WA := by rw [hWA.out]; go_grown
      have hBA : Below W0.heap.size W0 WA := hB.trans (hbA.mono hB.size)
      have pD0 : ∀ i : After WA, i.w.cell? ⟨w.heap.size, 0, none⟩ = some (.int .i64 e.dot.a.dev) := fun i => i.cell (kept hBA D0)
      have pD1 : ∀ i : After WA, i.w.cell? ⟨w.heap.size, 1, none⟩ = some (.int .i64 e.dot.a.inc) := fun i => i.cell (kept hBA D1)
      have pD2 : ∀ i : After WA, i.w.cell? ⟨w.heap.size, 2, none⟩ = some (.int .i64 e.dot.seq) := fun i => i.cell (kept hBA D2)
      clear hWA hBA
      go_big_quiet_step (fail)
      go_big_quiet_step (fail)
      go_big_quiet_step (fail)
      go_big_quiet_step (fail)
      go_big_quiet_step (fail)
      go_big_quiet_step (fail)
      go_big_quiet_step (fail)
      go_big_quiet_step (fail)
      go_big_quiet_step (fail)
      go_big_quiet_step (fail)
      go_big_quiet_step (fail)
      go_big_quiet_step (fail)
      go_big_quiet_step (fail)
      go_big_quiet_step (fail)
      refine wpQuiet_nil ?_
      rintro _ ⟨i, rfl⟩
      have hiA := i.h
      generalize i.w = wp at hiA ⊢
      have hbY : Below wr.heap.size wr wp := below2 hbA hiA
      replace hB := hB.trans (hbY.mono hB.size)
      clear hbA hiA hbY pD0 pD1 pD2
      go_upto_region 4 with fail
      refine wp_name (fun W hW => ?_)
      have hbW : Below wp.heap.size wp W.drew := by rw [hW.out]; go_grown
      have hBW : Below W0.heap.size W0 W.drew := hB.trans (hbW.mono hB.size)
      have hinW := HC.out.kept hBW
      have hzW := hBW.size
      have hq := HQ.out
      have hcut : ∀ X, (Instr.sliceAt 22 (.slice a ls.length cap) none (some (.int .i64 (q : Nat))) none).run Tryz.prog X = .ok (.slice a q cap) X := fun X => run_cut_hi X _ _ i0 a ls.length cap .i64 q Tryz.underlying22 hi (by omega)
      have hcut2 : ∀ X, (Instr.sliceAt 22 (.slice a ls.length cap) (some (.int .i64 (q : Nat))) none none).run Tryz.prog X = .ok (.slice (cutA a cap q 19) (ls.length - q) (cap - q)) X := fun X => run_cut_lo X _ _ i0 a ls.length cap .i64 q 19 Tryz.underlying22 hi hz1 (by omega)
      have hR1 : ∀ X, Below W.drew.heap.size W.drew X → CellsIn X a (evItCells (ls.take q)) := fun X h => by rw [← evIt_take]; exact (hinW.kept h).take _
      have hR2 : ∀ X, Below W.drew.heap.size W.drew X → CellsIn X (cutA a cap q 19) (evItCells (ls.drop q)) := fun X h => by rw [← evIt_drop]; exact (hinW.kept h).cut (evIt_length ls) hlc q
      have l1 : (evItCells (ls.take q)).length = q * 19 := by rw [evIt_length, List.length_take, Nat.min_eq_left hq]
      have l2 : (evItCells (ls.drop q)).length = (ls.length - q) * 19 := by rw [evIt_length, List.length_drop]
      have hF : ∀ X, Below W.drew.heap.size W.drew X → X.rangeAt w.heap.size 0 (evCells e ae ce) := fun X h => rangeAt_kept (rangeAt_kept HR.out hBW) h
      clear hW
      refine wp_region_noPanic ?_
      refine wp_region_held_drew (S := fun W' => Below W.drew.heap.size W.drew W') (by kernel_rfl) (Below.refl _ _) (fun hHeld => ?_)
      refine wpAnyH_take (i := 1) (oi := ⟨some 23, _, _, _, _, _⟩) (v := ?_) rfl (by kernel_rfl) (by kernel_rfl) (by kernel_rfl) (fun _ _ _ h => h) (Or.inl ⟨by rfl, ?_⟩) (by assumption) ?_
      case refine_2 => (intro w hSw; go_simp; try with_reducible rfl)
      try simp only [Act.put, List.setIfInBounds_toArray, List.set_cons_zero, List.set_cons_succ]
      refine wpAnyH_take (i := 2) (oi := ⟨some 24, _, _, _, _, _⟩) (v := ?_) rfl (by kernel_rfl) (by kernel_rfl) (by kernel_rfl) (fun _ _ _ h => h) (Or.inl ⟨by rfl, ?_⟩) (by assumption) ?_
      case refine_2 => (intro w hSw; go_simp; try with_reducible rfl)
      try simp only [Act.put, List.setIfInBounds_toArray, List.set_cons_zero, List.set_cons_succ]
      refine wpAnyH_take (i := 3) (oi := ⟨some 25, _, _, _, _, _⟩) rfl (by kernel_rfl) (by kernel_rfl) (by kernel_rfl) (fun _ _ _ h => h) (Or.inl ⟨by rfl, fun W hSW => exec_slice _ _ _ _ _ rfl _ (hcut W)⟩) (by assumption) ?_
      try simp only [Act.put, List.setIfInBounds_toArray, List.set_cons_zero, List.set_cons_succ]
      refine wpAnyH_take (i := 5) (oi := ⟨some 27, _, _, _, _, _⟩) rfl (by kernel_rfl) (by kernel_rfl) (by kernel_rfl) (fun _ _ _ h => h) (yieldsIf_load_mid (by rfl) 42 _ rfl w.heap.size 0 rfl (evCells e ae ce) _ (fun X h => hF X h) Tryz.underlying42 rfl (by kernel_rfl)) (by assumption) ?_
      try simp only [Act.put, List.setIfInBounds_toArray, List.set_cons_zero, List.set_cons_succ]
      refine wpAnyH_take (i := 8) (oi := ⟨some 30, _, _, _, _, _⟩) (v := ?_) rfl (by kernel_rfl) (by kernel_rfl) (by kernel_rfl) (fun _ _ _ h => h) (Or.inl ⟨by rfl, ?_⟩) (by assumption) ?_
      case refine_2 => (intro w hSw; go_simp; try with_reducible rfl)
      try simp only [Act.put, List.setIfInBounds_toArray, List.set_cons_zero, List.set_cons_succ]
      refine wpAnyH_take (i := 9) (oi := ⟨some 31, _, _, _, _, _⟩) (v := ?_) rfl (by kernel_rfl) (by kernel_rfl) (by kernel_rfl) (fun _ _ _ h => h) (Or.inl ⟨by rfl, ?_⟩) (by assumption) ?_
      case refine_2 => (intro w hSw; go_simp; try with_reducible rfl)
      try simp only [Act.put, List.setIfInBounds_toArray, List.set_cons_zero, List.set_cons_succ]
      refine wpAnyH_take (i := 10) (oi := ⟨some 32, _, _, _, _, _⟩) rfl (by kernel_rfl) (by kernel_rfl) (by kernel_rfl) (fun _ _ _ h => h) (Or.inl ⟨by rfl, fun W hSW => exec_slice _ _ _ _ _ rfl _ (hcut2 W)⟩) (by assumption) ?_
      try simp only [Act.put, List.setIfInBounds_toArray, List.set_cons_zero, List.set_cons_succ]
      refine wpAnyH_ready (rs := [0, 6]) (by kernel_rfl) (by simp) ?_
      refine AllReadyH.cons (o := ⟨some 22, _, _, _, _, _⟩) rfl (fun K hK => ?_) (AllReadyH.cons (o := ⟨some 28, _, _, _, _, _⟩) rfl (fun K hK => ?_) AllReadyH.nil)
      · skip
        refine step_build_nil (by rfl) 22 42 rfl i0 _ 19 Tryz.underlying22 hi hz0 hz1 (by decide) ?_
        intro v0 X0 hown0 hbel0
        refine hK.out _ _ ?_ (fun hHeld2 => ?_)
        · exact hHeld.trans (hbel0.mono hHeld.size)
        clear hK K hHeld
        have hHeld := hHeld2
        clear hHeld2
        try simp only [Act.put, List.setIfInBounds_toArray, List.set_cons_zero, List.set_cons_succ]
        refine wpAnyH_ready (rs := [4, 6]) (by kernel_rfl) (by simp) ?_
        refine AllReadyH.cons (o := ⟨some 26, _, _, _, _, _⟩) rfl (fun K hK => ?_) (AllReadyH.cons (o := ⟨some 28, _, _, _, _, _⟩) rfl (fun K hK => ?_) AllReadyH.nil)
        · skip
          refine step_append_cells (by rfl) (.tmp 22) (.tmp 25) 22 rfl W.drew.heap.size 42 i0 _ 19 176 Tryz.underlying22 hi hz0 hz1 hz2 rfl (by decide) _ 0 _ rfl hown0 a q cap (evItCells (ls.take q)) rfl l1 (hR1 _ hHeld) (evIt_one _) (by first | omega | (unfold maxLen; omega)) (by first | omega | (unfold maxLen; omega)) hHeld.size ?_
          intro v1 X1 hown1 hg1
          refine hK.out _ _ ?_ (fun hHeld2 => ?_)
          · exact hHeld.grown hg1 hHeld.size (fun k hk => (hown0.lt k hk).1)
          clear hK K hHeld
          have hHeld := hHeld2
          clear hHeld2
          try simp only [Act.put, List.setIfInBounds_toArray, List.set_cons_zero, List.set_cons_succ]
          refine wpAnyH_ready (rs := [6]) (by kernel_rfl) (by simp) ?_
          refine AllReadyH.cons (o := ⟨some 28, _, _, _, _, _⟩) rfl (fun K hK => ?_) AllReadyH.nil
          refine step_build_one (by rfl) 22 42 _ rfl (evCells e ae ce).toArray 19 rfl rfl (by decide) (by decide) Tryz.underlying22 (by kernel_rfl) (by kernel_rfl) ?_
          refine hK.out _ _ ?_ (fun hHeld2 => ?_)
          · exact hHeld.alloc hHeld.size _
          clear hK K hHeld
          have hHeld := hHeld2
          clear hHeld2
          try simp only [Act.put, List.setIfInBounds_toArray, List.set_cons_zero, List.set_cons_succ]
          have hN := (fun X => ev_cells_new X e ae ce) X1
          refine wpAnyH_ready (rs := [7]) (by kernel_rfl) (by simp) ?_
          refine AllReadyH.cons (o := ⟨some 29, _, _, _, _, _⟩) rfl (fun K hK => ?_) AllReadyH.nil
          refine step_append_cells (by rfl) (.tmp 26) (.tmp 28) 22 rfl W.drew.heap.size 42 i0 _ 19 176 Tryz.underlying22 hi hz0 hz1 hz2 rfl (by decide) _ (0 + q) _ rfl (hown1.alloc _) (some ⟨X1.heap.size, 0, none⟩) 1 1 (evCells e ae ce) rfl rfl hN (evCells_one _ _ _) (by first | omega | (unfold maxLen; omega)) (by first | omega | (unfold maxLen; omega)) hHeld.size ?_
          intro v2 X2 hown2 hg2
          refine hK.out _ _ ?_ (fun hHeld2 => ?_)
          · exact hHeld.grown hg2 hHeld.size (fun k hk => (hown1.lt k hk).1)
          clear hK K hHeld
          have hHeld := hHeld2
          clear hHeld2
          try simp only [Act.put, List.setIfInBounds_toArray, List.set_cons_zero, List.set_cons_succ]
          refine wpAnyH_ready (rs := [11]) (by kernel_rfl) (by simp) ?_
          refine AllReadyH.cons (o := ⟨some 33, _, _, _, _, _⟩) rfl (fun K hK => ?_) AllReadyH.nil
          refine step_append_cells (by rfl) (.tmp 29) (.tmp 32) 22 rfl W.drew.heap.size 42 i0 _ 19 176 Tryz.underlying22 hi hz0 hz1 hz2 rfl (by decide) _ (0 + q + 1) _ rfl hown2 (cutA a cap q 19) (ls.length - q) (cap - q) (evItCells (ls.drop q)) rfl l2 (hR2 _ hHeld) (evIt_one _) (by first | omega | (unfold maxLen; omega)) (by first | omega | (unfold maxLen; omega)) hHeld.size ?_
          intro v3 X3 hown3 hg3
          refine hK.out _ _ ?_ (fun hHeld2 => ?_)
          · exact hHeld.grown hg3 hHeld.size (fun k hk => (hown2.lt k hk).1)
          clear hK K hHeld
          have hHeld := hHeld2
          clear hHeld2
          try simp only [Act.put, List.setIfInBounds_toArray, List.set_cons_zero, List.set_cons_succ]
          refine wpAnyH_take (i := 12) (oi := ⟨some 4, _, _, _, _, _⟩) (v := ?_) rfl (by kernel_rfl) (by kernel_rfl) (by kernel_rfl) (fun _ _ _ h => h) (Or.inl ⟨by rfl, ?_⟩) (by assumption) ?_
          case refine_2 => (intro w hSw; go_simp; try with_reducible rfl)
          try simp only [Act.put, List.setIfInBounds_toArray, List.set_cons_zero, List.set_cons_succ]
          refine wpAnyH_done (by kernel_rfl) ?_ _
          refine NoPanic.normal ?_
          have e1 : [] ++ evItCells (ls.take q) ++ evCells e ae ce ++ evItCells (ls.drop q) = evItCells (insEI ls (e, ae, ce)) := by unfold insEI; rw [HI.out]; simp [evItCells]
          have e2 : 0 + q + 1 + (ls.length - q) = (insEI ls (e, ae, ce)).length := by rw [insEI_len]; omega
          rw [e1, e2] at hown3
          obtain ⟨a2, c2, rfl, hcell2, hc2⟩ := own_cellsIn hown3
          obtain ⟨a3, c3, he3, hin3⟩ := evsIn_own hown3 (fun x hx => (HD.out x hx).kept (hBW.trans (hHeld.mono hzW)))
          obtain ⟨rfl, rfl⟩ : a2 = a3 ∧ c2 = c3 := by cases he3; exact ⟨rfl, rfl⟩
          have HZ := Lib.hid (And.intro (own_low hown3 (Nat.le_trans hz0' hzW)) (And.intro hin3 (And.intro hc2 (hb0.trans ((hBW.trans (hHeld.mono hzW)).mono hz0')))))
          clear e1 e2 hR1 hR2 l1 l2 hF hcut hcut2 hown3 hHeld hinW hBW hbW hin3 hcell2 hc2 he3
          go_wp2
          go_ret
          exact ⟨a2, c2, rfl, HZ.out.1, HZ.out.2.1, HZ.out.2.2.1, HZ.out.2.2.2⟩
        · skip
          refine step_build_one (by rfl) 22 42 _ rfl (evCells e ae ce).toArray 19 rfl rfl (by decide) (by decide) Tryz.underlying22 (by kernel_rfl) (by kernel_rfl) ?_
          refine hK.out _ _ ?_ (fun hHeld2 => ?_)
          · exact hHeld.alloc hHeld.size _
          clear hK K hHeld
          have hHeld := hHeld2
          clear hHeld2
          try simp only [Act.put, List.setIfInBounds_toArray, List.set_cons_zero, List.set_cons_succ]
          have hN := (fun X => ev_cells_new X e ae ce) X0
          refine wpAnyH_ready (rs := [4]) (by kernel_rfl) (by simp) ?_
          refine AllReadyH.cons (o := ⟨some 26, _, _, _, _, _⟩) rfl (fun K hK => ?_) AllReadyH.nil
          refine step_append_cells (by rfl) (.tmp 22) (.tmp 25) 22 rfl W.drew.heap.size 42 i0 _ 19 176 Tryz.underlying22 hi hz0 hz1 hz2 rfl (by decide) _ 0 _ rfl (hown0.alloc _) a q cap (evItCells (ls.take q)) rfl l1 (hR1 _ hHeld) (evIt_one _) (by first | omega | (unfold maxLen; omega)) (by first | omega | (unfold maxLen; omega)) hHeld.size ?_
          intro v1 X1 hown1 hg1
          refine hK.out _ _ ?_ (fun hHeld2 => ?_)
          · exact hHeld.grown hg1 hHeld.size (fun k hk => (hown0.lt k hk).1)
          clear hK K hHeld
          have hHeld := hHeld2
          clear hHeld2
          try simp only [Act.put, List.setIfInBounds_toArray, List.set_cons_zero, List.set_cons_succ]
          replace hN := hN.grown hg1 (fun q hq e => by have := (hown0.lt _ e).2; simp only [Option.some.injEq] at hq; subst hq; simp only at this; omega)
          refine wpAnyH_ready (rs := [7]) (by kernel_rfl) (by simp) ?_
          refine AllReadyH.cons (o := ⟨some 29, _, _, _, _, _⟩) rfl (fun K hK => ?_) AllReadyH.nil
          refine step_append_cells (by rfl) (.tmp 26) (.tmp 28) 22 rfl W.drew.heap.size 42 i0 _ 19 176 Tryz.underlying22 hi hz0 hz1 hz2 rfl (by decide) _ (0 + q) _ rfl hown1 (some ⟨X0.heap.size, 0, none⟩) 1 1 (evCells e ae ce) rfl rfl hN (evCells_one _ _ _) (by first | omega | (unfold maxLen; omega)) (by first | omega | (unfold maxLen; omega)) hHeld.size ?_
          intro v2 X2 hown2 hg2
          refine hK.out _ _ ?_ (fun hHeld2 => ?_)
          · exact hHeld.grown hg2 hHeld.size (fun k hk => (hown1.lt k hk).1)
          clear hK K hHeld
          have hHeld := hHeld2
          clear hHeld2
          try simp only [Act.put, List.setIfInBounds_toArray, List.set_cons_zero, List.set_cons_succ]
          refine wpAnyH_ready (rs := [11]) (by kernel_rfl) (by simp) ?_
          refine AllReadyH.cons (o := ⟨some 33, _, _, _, _, _⟩) rfl (fun K hK => ?_) AllReadyH.nil
          refine step_append_cells (by rfl) (.tmp 29) (.tmp 32) 22 rfl W.drew.heap.size 42 i0 _ 19 176 Tryz.underlying22 hi hz0 hz1 hz2 rfl (by decide) _ (0 + q + 1) _ rfl hown2 (cutA a cap q 19) (ls.length - q) (cap - q) (evItCells (ls.drop q)) rfl l2 (hR2 _ hHeld) (evIt_one _) (by first | omega | (unfold maxLen; omega)) (by first | omega | (unfold maxLen; omega)) hHeld.size ?_
          intro v3 X3 hown3 hg3
          refine hK.out _ _ ?_ (fun hHeld2 => ?_)
          · exact hHeld.grown hg3 hHeld.size (fun k hk => (hown2.lt k hk).1)
          clear hK K hHeld
          have hHeld := hHeld2
          clear hHeld2
          try simp only [Act.put, List.setIfInBounds_toArray, List.set_cons_zero, List.set_cons_succ]
          refine wpAnyH_take (i := 12) (oi := ⟨some 4, _, _, _, _, _⟩) (v := ?_) rfl (by kernel_rfl) (by kernel_rfl) (by kernel_rfl) (fun _ _ _ h => h) (Or.inl ⟨by rfl, ?_⟩) (by assumption) ?_
          case refine_2 => (intro w hSw; go_simp; try with_reducible rfl)
          try simp only [Act.put, List.setIfInBounds_toArray, List.set_cons_zero, List.set_cons_succ]
          refine wpAnyH_done (by kernel_rfl) ?_ _
          refine NoPanic.normal ?_
          have e1 : [] ++ evItCells (ls.take q) ++ evCells e ae ce ++ evItCells (ls.drop q) = evItCells (insEI ls (e, ae, ce)) := by unfold insEI; rw [HI.out]; simp [evItCells]
          have e2 : 0 + q + 1 + (ls.length - q) = (insEI ls (e, ae, ce)).length := by rw [insEI_len]; omega
          rw [e1, e2] at hown3
          obtain ⟨a2, c2, rfl, hcell2, hc2⟩ := own_cellsIn hown3
          obtain ⟨a3, c3, he3, hin3⟩ := evsIn_own hown3 (fun x hx => (HD.out x hx).kept (hBW.trans (hHeld.mono hzW)))
          obtain ⟨rfl, rfl⟩ : a2 = a3 ∧ c2 = c3 := by cases he3; exact ⟨rfl, rfl⟩
          have HZ := Lib.hid (And.intro (own_low hown3 (Nat.le_trans hz0' hzW)) (And.intro hin3 (And.intro hc2 (hb0.trans ((hBW.trans (hHeld.mono hzW)).mono hz0')))))
          clear e1 e2 hR1 hR2 l1 l2 hF hcut hcut2 hown3 hHeld hinW hBW hbW hin3 hcell2 hc2 he3
          go_wp2
          go_ret
          exact ⟨a2, c2, rfl, HZ.out.1, HZ.out.2.1, HZ.out.2.2.1, HZ.out.2.2.2⟩
      · skip
        refine step_build_one (by rfl) 22 42 _ rfl (evCells e ae ce).toArray 19 rfl rfl (by decide) (by decide) Tryz.underlying22 (by kernel_rfl) (by kernel_rfl) ?_
        refine hK.out _ _ ?_ (fun hHeld2 => ?_)
        · exact hHeld.alloc hHeld.size _
        clear hK K hHeld
        have hHeld := hHeld2
        clear hHeld2
        try simp only [Act.put, List.setIfInBounds_toArray, List.set_cons_zero, List.set_cons_succ]
        have hN := (fun X => ev_cells_new X e ae ce) W.drew
        refine wpAnyH_ready (rs := [0]) (by kernel_rfl) (by simp) ?_
        refine AllReadyH.cons (o := ⟨some 22, _, _, _, _, _⟩) rfl (fun K hK => ?_) AllReadyH.nil
        refine step_build_nil (by rfl) 22 42 rfl i0 _ 19 Tryz.underlying22 hi hz0 hz1 (by decide) ?_
        intro v0 X0 hown0 hbel0
        refine hK.out _ _ ?_ (fun hHeld2 => ?_)
        · exact hHeld.trans (hbel0.mono hHeld.size)
        clear hK K hHeld
        have hHeld := hHeld2
        clear hHeld2
        try simp only [Act.put, List.setIfInBounds_toArray, List.set_cons_zero, List.set_cons_succ]
        replace hN := hN.kept hbel0
        have hownB := hown0
        replace hown0 := own_base hown0 (b2 := W.drew.heap.size) (by first | exact Nat.le_refl _ | simp)
        refine wpAnyH_ready (rs := [4]) (by kernel_rfl) (by simp) ?_
        refine AllReadyH.cons (o := ⟨some 26, _, _, _, _, _⟩) rfl (fun K hK => ?_) AllReadyH.nil
        refine step_append_cells (by rfl) (.tmp 22) (.tmp 25) 22 rfl W.drew.heap.size 42 i0 _ 19 176 Tryz.underlying22 hi hz0 hz1 hz2 rfl (by decide) _ 0 _ rfl hown0 a q cap (evItCells (ls.take q)) rfl l1 (hR1 _ hHeld) (evIt_one _) (by first | omega | (unfold maxLen; omega)) (by first | omega | (unfold maxLen; omega)) hHeld.size ?_
        intro v1 X1 hown1 hg1
        refine hK.out _ _ ?_ (fun hHeld2 => ?_)
        · exact hHeld.grown hg1 hHeld.size (fun k hk => (hown0.lt k hk).1)
        clear hK K hHeld
        have hHeld := hHeld2
        clear hHeld2
        try simp only [Act.put, List.setIfInBounds_toArray, List.set_cons_zero, List.set_cons_succ]
        replace hN := hN.grown hg1 (fun q hq e => by have := (hownB.lt _ e).1; simp only [Option.some.injEq] at hq; subst hq; simp at this; omega)
        refine wpAnyH_ready (rs := [7]) (by kernel_rfl) (by simp) ?_
        refine AllReadyH.cons (o := ⟨some 29, _, _, _, _, _⟩) rfl (fun K hK => ?_) AllReadyH.nil
        refine step_append_cells (by rfl) (.tmp 26) (.tmp 28) 22 rfl W.drew.heap.size 42 i0 _ 19 176 Tryz.underlying22 hi hz0 hz1 hz2 rfl (by decide) _ (0 + q) _ rfl hown1 (some ⟨W.drew.heap.size, 0, none⟩) 1 1 (evCells e ae ce) rfl rfl hN (evCells_one _ _ _) (by first | omega | (unfold maxLen; omega)) (by first | omega | (unfold maxLen; omega)) hHeld.size ?_
        intro v2 X2 hown2 hg2
        refine hK.out _ _ ?_ (fun hHeld2 => ?_)
        · exact hHeld.grown hg2 hHeld.size (fun k hk => (hown1.lt k hk).1)
        clear hK K hHeld
        have hHeld := hHeld2
        clear hHeld2
        try simp only [Act.put, List.setIfInBounds_toArray, List.set_cons_zero, List.set_cons_succ]
        refine wpAnyH_ready (rs := [11]) (by kernel_rfl) (by simp) ?_
        refine AllReadyH.cons (o := ⟨some 33, _, _, _, _, _⟩) rfl (fun K hK => ?_) AllReadyH.nil
        refine step_append_cells (by rfl) (.tmp 29) (.tmp 32) 22 rfl W.drew.heap.size 42 i0 _ 19 176 Tryz.underlying22 hi hz0 hz1 hz2 rfl (by decide) _ (0 + q + 1) _ rfl hown2 (cutA a cap q 19) (ls.length - q) (cap - q) (evItCells (ls.drop q)) rfl l2 (hR2 _ hHeld) (evIt_one _) (by first | omega | (unfold maxLen; omega)) (by first | omega | (unfold maxLen; omega)) hHeld.size ?_
        intro v3 X3 hown3 hg3
        refine hK.out _ _ ?_ (fun hHeld2 => ?_)
        · exact hHeld.grown hg3 hHeld.size (fun k hk => (hown2.lt k hk).1)
        clear hK K hHeld
        have hHeld := hHeld2
        clear hHeld2
        try simp only [Act.put, List.setIfInBounds_toArray, List.set_cons_zero, List.set_cons_succ]
        refine wpAnyH_take (i := 12) (oi := ⟨some 4, _, _, _, _, _⟩) (v := ?_) rfl (by kernel_rfl) (by kernel_rfl) (by kernel_rfl) (fun _ _ _ h => h) (Or.inl ⟨by rfl, ?_⟩) (by assumption) ?_
        case refine_2 => (intro w hSw; go_simp; try with_reducible rfl)
        try simp only [Act.put, List.setIfInBounds_toArray, List.set_cons_zero, List.set_cons_succ]
        refine wpAnyH_done (by kernel_rfl) ?_ _
        refine NoPanic.normal ?_
        have e1 : [] ++ evItCells (ls.take q) ++ evCells e ae ce ++ evItCells (ls.drop q) = evItCells (insEI ls (e, ae, ce)) := by unfold insEI; rw [HI.out]; simp [evItCells]
        have e2 : 0 + q + 1 + (ls.length - q) = (insEI ls (e, ae, ce)).length := by rw [insEI_len]; omega
        rw [e1, e2] at hown3
        obtain ⟨a2, c2, rfl, hcell2, hc2⟩ := own_cellsIn hown3
        obtain ⟨a3, c3, he3, hin3⟩ := evsIn_own hown3 (fun x hx => (HD.out x hx).kept (hBW.trans (hHeld.mono hzW)))
        obtain ⟨rfl, rfl⟩ : a2 = a3 ∧ c2 = c3 := by cases he3; exact ⟨rfl, rfl⟩
        have HZ := Lib.hid (And.intro (own_low hown3 (Nat.le_trans hz0' hzW)) (And.intro hin3 (And.intro hc2 (hb0.trans ((hBW.trans (hHeld.mono hzW)).mono hz0')))))
        clear e1 e2 hR1 hR2 l1 l2 hF hcut hcut2 hown3 hHeld hinW hBW hbW hin3 hcell2 hc2 he3
        go_wp2
        go_ret
        exact ⟨a2, c2, rfl, HZ.out.1, HZ.out.2.1, HZ.out.2.2.1, HZ.out.2.2.2⟩
end Go.Proofs.YtcijajjngmmbeaaGreat
