/- The reference's map: Winners. Conditions: as in the text. -/
import Derived.Test.YtcijajjngmmbeaaGreatWinsP
set_option linter.unusedSimpArgs false
set_option linter.unusedVariables false
set_option linter.unnecessarySimpa false
namespace Go.Proofs.YtcijajjngmmbeaaGreat
open Go.RowKit

def rwF (L : List EvIt) (k : Key) : Ev := (winOf (evsOf (L.filter (keyB k)))).1
theorem rwF_ok {L : List EvIt} (h : ∀ z ∈ L, ∀ d ∈ z.1.over, dotOk d = true) (k : Key) : ∀ d ∈ (rwF L k).over, dotOk d = true := by
  unfold rwF
  by_cases h0 : evsOf (L.filter (keyB k)) = []
  · rw [h0]
    intro d hd
    exact absurd hd (by simp [winOf, ev0])
  · obtain ⟨z, hz, e⟩ : ∃ z ∈ L.filter (keyB k), z.1 = (winOf (evsOf (L.filter (keyB k)))).1 := List.mem_map.1 (winOf_mem h0)
    rw [← e]
    exact h z (List.mem_filter.1 hz).1
theorem key_range {w : World} {A off k : Nat} {e : Ev} {a : Option Addr} {c : Nat} (h : w.rangeAt A (off + k * 19) (evCells e a c)) : w.rangeAt A (off + k * 19 + 7) [.string e.key.name, .string e.key.domain, .string e.key.path] := fun j v hj => by
  match j, hj with
  | 0, hj => exact h 7 v hj
  | 1, hj => exact h 8 v hj
  | 2, hj => exact h 9 v hj
  | j + 3, hj => simp at hj
theorem RMAt.range {w : World} {R : Nat} {x : RMIt} (h : RMAt w R x) : w.rangeAt R 0 (rmCells x) := fun j v hj => by
  rw [Nat.zero_add]
  simp only [RMAt] at h
  simp only [World.cell?, h, rmRow]
  simpa using hj
theorem ev_range {w : World} {R : Nat} {e : Ev} {a : Option Addr} {c : Nat} {t : TypeId} {f : Nat × Nat} (h : w.heap[R]? = some (.cells (evCells e a c).toArray t f)) : w.rangeAt R 0 (evCells e a c) := fun j v hj => by
  rw [Nat.zero_add]
  simp only [World.cell?, h]
  simpa using hj

def RetWs (L : List EvIt) (w : World) (e : Ending) (w' : World) : Prop := ∃ a d c, e = .returned (.slice a d.length c) ∧ EvsIn w' a d ∧ evsOf d = (evsOf L).foldl (rwStep (rwF L)) [] ∧ Below w.heap.size w w'
set_option maxRecDepth 100000 in
set_option maxHeartbeats 8000000 in
theorem rWinners21_any (x : RMIt) (w : World) (hK : x.K.length ≤ 4096) (hdl : x.dead.length ≤ 1048576) (hI : RMIn w x) (hok : ∀ z ∈ x.K, ∀ d ∈ z.1.over, dotOk d = true) :
    Calls Tryz.prog 82 #[rmVal x] w (RetWs (x.K.filter (aliveB x.dead)) w) := by
  obtain ⟨i0, hi, hz0, hz1, hz2⟩ := info_parts Tryz.infoEv
  have HAl := Lib.hid (fun (X : World) (h : RMIn X x) => rAlive21_any x X hK hdl h)
  have HWn := Lib.hid (fun (ky : Key) (X : World) (h : RMIn X x) => rWinner21_any x ky X hK hdl h hok)
  have HLs := Lib.hid (fun (a b : Key) (X : World) => rKeyLess_any a b X)
  have HOKL : Hid (∀ z ∈ x.K.filter (aliveB x.dead), ∀ d ∈ z.1.over, dotOk d = true) := fun z hz => hok z (List.mem_filter.1 hz).1
  have hLK : (x.K.filter (aliveB x.dead)).length ≤ 4096 := Nat.le_trans (List.length_filter_le _ _) hK
  generalize x.K.filter (aliveB x.dead) = L at *
  clear hok hK hdl
  go_enter Tryz.func82, Tryz.ntmps82
  go_upto_region 1 with fail
  refine wp_name (fun V hV => ?_)
  have hb0 : Below w.heap.size w V := by rw [hV.out]; go_grown
  have hAt : RMAt V w.heap.size x := by rw [hV.out]; exact heap_last0 _ _
  have hI0 := hI.keep hb0
  clear hV hI
  go_upto_region 2 with fail
  refine wp_name (fun V1 hV1 => ?_)
  have hbM : Below V.heap.size V V1 := by rw [hV1.out]; exact (Below.refl _ _).alloc (Nat.le_refl _) _
  have hI1 := hI0.keep hbM
  have hAt1 := hAt.kept hbM
  obtain ⟨x0, x1, x2⟩ := hAt1.cells
  have hb1w : Below w.heap.size w V1 := hb0.trans (hbM.mono hb0.size)
  obtain ⟨B0, hB0⟩ : ∃ B0, B0 = V.heap.size := ⟨_, rfl⟩
  rw [← hB0]
  clear hV1 hI0 hAt hb0 hbM hB0
  go_wp2_with (go_at_call 71; (with_reducible refine (HAl.out _ hI1).mono ?_); rintro v W0 ⟨aA, cA, rfl, hE0, _, hb1⟩)
  have hI2 := hI1.keep hb1
  have hAt2 := hAt1.kept hb1
  have hbW0 : Below w.heap.size w W0 := hb1w.trans (hb1.mono hb1w.size)
  clear x0 x1 x2 hI1 hAt1 hb1w hb1 HAl
  go_loopw [3, 5] (fun u i wr => ∃ (k : Nat) (aO : Option Addr) (O : List EvIt) (cO : Nat), i = .int .i64 k ∧ k ≤ L.length ∧ u = .slice aO O.length cO ∧ EvsIn wr aO O ∧ O.length ≤ cO ∧ O.length ≤ k ∧ evsOf O = ((evsOf L).take k).foldl (rwStep (rwF L)) [] ∧ Below W0.heap.size W0 wr) (fun _ i _ => L.length - (intOf i).toNat)
  case atStart => exact ⟨0, _, [], _, rfl, Nat.zero_le _, rfl, ⟨Or.inl rfl, fun z hz => (nomatch hz)⟩, Nat.zero_le _, Nat.le_refl _, rfl, Below.refl _ _⟩
  case round =>
    obtain ⟨k, aO, O, cO, rfl, hk, rfl, hEO, hOC, hOL, hOV, hbr⟩ := hrel
    have HOV := Lib.hid hOV
    have HOC := Lib.hid hOC
    have HOL := Lib.hid hOL
    clear hOV hOC
    by_cases hlt : k < L.length
    · obtain ⟨A, off, rfl, hra, _⟩ := (hE0.kept hbr).at hlt
      have r1 := hra k hlt
      have HT : Hid ((evsOf L).take (k + 1) = (evsOf L).take k ++ [L[k].1]) := by
        unfold Hid
        rw [List.take_add_one, List.getElem?_eq_getElem (by rw [evsOf_length]; exact hlt), evsOf_at hlt]
        rfl
      have HLT := Lib.hid hlt
      have hkl : k ≤ 4096 := by omega
      generalize L[k] = z at *
      obtain ⟨e, ax, cx⟩ := z
      simp only [itEv] at r1
      simp only at HT
      have HOK := Lib.hid (rwF_ok HOKL.out e.key)
      have hW0 := fun (X : World) (h : RMIn X x) => HWn.out e.key X h
      obtain ⟨rw0, hrw0⟩ : ∃ p, p = winOf (evsOf (L.filter (keyB e.key))) := ⟨_, rfl⟩
      have hHR : rwF L e.key = rw0.1 := by rw [hrw0]; rfl
      rw [hHR] at HOK
      rw [← hrw0] at hW0
      have HR := Lib.hid hHR
      obtain ⟨r, rb⟩ := rw0
      simp only at HOK HR
      have HW := Lib.hid hW0
      clear hrw0 hHR hW0 hra
      go_upto_region 6 with fail
      refine wp_name (fun V hV => ?_)
      have hbV : Below wr.heap.size wr V.drew := by rw [hV.out]; go_grown
      have vM := ((hAt2.kept hbr).kept hbV).range
      have vK := rangeAt_kept (key_range r1) hbV
      have vR := rangeAt_kept r1 hbV
      have vI := (hI2.keep hbr).keep hbV
      have vO := hEO.kept hbV
      have hbWV : Below W0.heap.size W0 V.drew := hbr.trans (hbV.mono hbr.size)
      clear hV hbV hEO hbr r1
      refine wp_region_noPanic ?_
      refine wp_region_held_drew (S := fun W' => Below V.drew.heap.size V.drew W') (by kernel_rfl) (Below.refl _ _) (fun hHeld => ?_)
      refine wpAnyH_take (i := 0) (oi := ⟨some 19, _, _, _, _, _⟩) rfl (by kernel_rfl) (by kernel_rfl) (by kernel_rfl) (fun _ _ _ h => h) (yieldsIf_load_mid (by rfl) 45 _ rfl w.heap.size 0 rfl (rmCells x) _ (fun X h => rangeAt_kept vM h) Tryz.underlying45 rfl (by kernel_rfl)) (by assumption) ?_
      try simp only [Act.put, List.setIfInBounds_toArray, List.set_cons_zero, List.set_cons_succ]
      refine wpAnyH_take (i := 1) (oi := ⟨some 20, _, _, _, _, _⟩) (v := ?_) rfl (by kernel_rfl) (by kernel_rfl) (by kernel_rfl) (fun _ _ _ h => h) (Or.inl ⟨by rfl, ?_⟩) (by assumption) ?_
      case refine_2 => (intro w hSw; go_simp; try with_reducible rfl)
      try simp only [Act.put, List.setIfInBounds_toArray, List.set_cons_zero, List.set_cons_succ]
      refine wpAnyH_take (i := 2) (oi := ⟨some 21, _, _, _, _, _⟩) (v := ?_) rfl (by kernel_rfl) (by kernel_rfl) (by kernel_rfl) (fun _ _ _ h => h) (Or.inl ⟨by rfl, ?_⟩) (by assumption) ?_
      case refine_2 => (intro w hSw; go_simp; try with_reducible rfl)
      try simp only [Act.put, List.setIfInBounds_toArray, List.set_cons_zero, List.set_cons_succ]
      refine wpAnyH_take (i := 3) (oi := ⟨some 22, _, _, _, _, _⟩) (v := ?_) rfl (by kernel_rfl) (by kernel_rfl) (by kernel_rfl) (fun _ _ _ h => h) (Or.inl ⟨by rfl, ?_⟩) (by assumption) ?_
      case refine_2 => (intro w hSw; go_simp; try with_reducible rfl)
      try simp only [Act.put, List.setIfInBounds_toArray, List.set_cons_zero, List.set_cons_succ]
      refine wpAnyH_take (i := 4) (oi := ⟨some 23, _, _, _, _, _⟩) (v := ?_) rfl (by kernel_rfl) (by kernel_rfl) (by kernel_rfl) (fun _ _ _ h => h) (Or.inl ⟨by rfl, ?_⟩) (by assumption) ?_
      case refine_2 => (intro w hSw; go_simp; try with_reducible rfl)
      try simp only [Act.put, List.setIfInBounds_toArray, List.set_cons_zero, List.set_cons_succ]
      refine wpAnyH_take (i := 5) (oi := ⟨some 24, _, _, _, _, _⟩) rfl (by kernel_rfl) (by kernel_rfl) (by kernel_rfl) (fun _ _ _ h => h) (yieldsIf_load_mid (by rfl) 24 _ rfl A (off + k * 19 + 7) rfl [.string e.key.name, .string e.key.domain, .string e.key.path] _ (fun X h => rangeAt_kept vK h) Tryz.underlying24 rfl (by kernel_rfl)) (by assumption) ?_
      try simp only [Act.put, List.setIfInBounds_toArray, List.set_cons_zero, List.set_cons_succ]
      refine wpAnyH_ready (rs := [6, 10]) (by kernel_rfl) (by simp) ?_
      refine AllReadyH.cons (o := ⟨some 25, _, _, _, _, _⟩) rfl (fun K hK => ?_) (AllReadyH.cons (o := ⟨some 6, _, _, _, _, _⟩) rfl (fun K hK => ?_) AllReadyH.nil)
      focus
        go_simp
        go_at_call 20
        (with_reducible refine (HW.out _ (vI.keep hHeld)).mono ?_)
        rintro v w5 ⟨aw, cw, rfl, hdw, hb5⟩
        go_simp
        have hNext := hHeld.trans (hb5.mono hHeld.size)
        refine hK.out _ _ hNext (fun hHeld2 => ?_)
        clear hK K hHeld
        have hHeld := hNext
        clear hHeld2 hNext
        try simp only [Act.put, List.setIfInBounds_toArray, List.set_cons_zero, List.set_cons_succ]
        refine wpAnyH_take (i := 7) (oi := ⟨some 18, _, _, _, _, _⟩) (v := ?_) rfl (by kernel_rfl) (by kernel_rfl) (by kernel_rfl) (fun _ _ _ h => h) (Or.inl ⟨by rfl, ?_⟩) (by assumption) ?_
        case refine_2 => (intro w hSw; go_simp; try with_reducible rfl)
        try simp only [Act.put, List.setIfInBounds_toArray, List.set_cons_zero, List.set_cons_succ]
        refine wpAnyH_take (i := 8) (oi := ⟨some 26, _, _, _, _, _⟩) (v := ?_) rfl (by kernel_rfl) (by kernel_rfl) (by kernel_rfl) (fun _ _ _ h => h) (Or.inl ⟨by rfl, ?_⟩) (by assumption) ?_
        case refine_2 => (intro w hSw; go_simp; try with_reducible rfl)
        try simp only [Act.put, List.setIfInBounds_toArray, List.set_cons_zero, List.set_cons_succ]
        refine wpAnyH_take (i := 9) (oi := ⟨some 27, _, _, _, _, _⟩) (v := ?_) rfl (by kernel_rfl) (by kernel_rfl) (by kernel_rfl) (fun _ _ _ h => h) (Or.inl ⟨by rfl, ?_⟩) (by assumption) ?_
        case refine_2 => (intro w hSw; go_simp; try with_reducible rfl)
        try simp only [Act.put, List.setIfInBounds_toArray, List.set_cons_zero, List.set_cons_succ]
        refine wpAnyH_ready (rs := [10]) (by kernel_rfl) (by simp) ?_
        refine AllReadyH.cons (o := ⟨some 6, _, _, _, _, _⟩) rfl (fun K hK => ?_) AllReadyH.nil
        have hz59 := hHeld.size
        go_simp
        have hNext := hHeld.alloc hHeld.size (.cells #[.int .i64 0, .int .i64 0, .int .i64 0, .int .i64 0, .int .i64 0, .int .i64 0, .int .i64 0, .string ⟨#[]⟩, .string ⟨#[]⟩, .string ⟨#[]⟩, .string ⟨#[]⟩, .bool false, .bool false, .bool false, .bool false, .int .i64 0, .int .i64 0, .int .i64 0, .slice none 0 0] 42)
        refine hK.out _ _ hNext (fun hHeld2 => ?_)
        clear hK K hHeld
        have hHeld := hNext
        clear hHeld2 hNext
        try simp only [Act.put, List.setIfInBounds_toArray, List.set_cons_zero, List.set_cons_succ]
        refine wpAnyH_ready (rs := [11]) (by kernel_rfl) (by simp) ?_
        refine AllReadyH.cons (o := ⟨none, _, _, _, _, _⟩) rfl (fun K hK => ?_) AllReadyH.nil
        have hq0 : (w5.alloc (.cells #[.int .i64 0, .int .i64 0, .int .i64 0, .int .i64 0, .int .i64 0, .int .i64 0, .int .i64 0, .string ⟨#[]⟩, .string ⟨#[]⟩, .string ⟨#[]⟩, .string ⟨#[]⟩, .bool false, .bool false, .bool false, .bool false, .int .i64 0, .int .i64 0, .int .i64 0, .slice none 0 0] 42)).heap[w5.heap.size]? = some (.cells (evCells ev0 none 0).toArray 42 (0, 0)) := heap_last0 _ _
        refine step_store_row (by rfl) 42 _ _ rfl (w5.heap.size) (evCells r aw cw).toArray rfl rfl 42 _ hq0 (by kernel_rfl) rfl (by kernel_rfl) ?_
        have hNext : Below V.drew.heap.size V.drew ((w5.alloc (.cells #[.int .i64 0, .int .i64 0, .int .i64 0, .int .i64 0, .int .i64 0, .int .i64 0, .int .i64 0, .string ⟨#[]⟩, .string ⟨#[]⟩, .string ⟨#[]⟩, .string ⟨#[]⟩, .bool false, .bool false, .bool false, .bool false, .int .i64 0, .int .i64 0, .int .i64 0, .slice none 0 0] 42)).setRow (w5.heap.size) (evCells r aw cw).toArray) := below_setRow hHeld (by omega : V.drew.heap.size ≤ w5.heap.size) (evCells r aw cw).toArray
        refine hK.out _ _ hNext (fun hHeld2 => ?_)
        clear hK K hHeld
        have hHeld := hNext
        clear hHeld2 hNext
        try simp only [Act.put, List.setIfInBounds_toArray, List.set_cons_zero, List.set_cons_succ]
        refine wpAnyH_take (i := 12) (oi := ⟨some 7, _, _, _, _, _⟩) (v := ?_) rfl (by kernel_rfl) (by kernel_rfl) (by kernel_rfl) (fun _ _ _ h => h) (Or.inl ⟨by rfl, ?_⟩) (by assumption) ?_
        case refine_2 => (intro w hSw; go_simp; try with_reducible rfl)
        try simp only [Act.put, List.setIfInBounds_toArray, List.set_cons_zero, List.set_cons_succ]
        refine wpAnyH_done (by kernel_rfl) ?_ _
        refine NoPanic.normal ?_
        obtain ⟨X, hX⟩ : ∃ X, X = (w5.alloc (.cells #[.int .i64 0, .int .i64 0, .int .i64 0, .int .i64 0, .int .i64 0, .int .i64 0, .int .i64 0, .string ⟨#[]⟩, .string ⟨#[]⟩, .string ⟨#[]⟩, .string ⟨#[]⟩, .bool false, .bool false, .bool false, .bool false, .int .i64 0, .int .i64 0, .int .i64 0, .slice none 0 0] 42)).setRow (w5.heap.size) (evCells r aw cw).toArray := ⟨_, rfl⟩
        rw [← hX] at hHeld ⊢
        have hqX : X.heap[w5.heap.size]? = some (.cells (evCells r aw cw).toArray 42 (0, 0)) := by rw [hX]; exact setRow_heap _ _ _ _ _ _ hq0
        have hdX : DotsIn X aw r.over := by
          rw [hX]
          exact DotsIn.not0 (hdw.kept ((Below.refl _ _).alloc (Nat.le_refl _) _)) HOK.out hq0 (fun k9 hk9 => heap_setRow_other _ _ _ _ (fun e9 => hk9 e9.symm))
        generalize hqn : w5.heap.size = Q at *
        clear hX hq0 hqn hdw hb5
        have hE := ev_range hqX
        have hbX : Below W0.heap.size W0 X := hbWV.trans (hHeld.mono hbWV.size)
        have hEOX := vO.kept hHeld
        have rX := rangeAt_kept vR hHeld
        clear vM vK vR vI vO hHeld hbWV hqX
        have d0 := hE 0 _ rfl
        have d1 := hE 1 _ rfl
        have d2 := hE 2 _ rfl
        have d7 := hE 7 _ rfl
        have d8 := hE 8 _ rfl
        have d9 := hE 9 _ rfl
        have e0 := rX 0 _ rfl
        have e1 := rX 1 _ rfl
        have e2 := rX 2 _ rfl
        simp only [Nat.zero_add] at d0 d1 d2 d7 d8 d9
        simp only [Nat.add_zero] at e0
        have hEq := fun (W : World) => eqDot W 9997 r.dot e.dot
        have hm := noGuardDot
        clear rX
        clear hz59
      rotate_left
      focus
        go_simp
        have hNext := hHeld.alloc hHeld.size (.cells #[.int .i64 0, .int .i64 0, .int .i64 0, .int .i64 0, .int .i64 0, .int .i64 0, .int .i64 0, .string ⟨#[]⟩, .string ⟨#[]⟩, .string ⟨#[]⟩, .string ⟨#[]⟩, .bool false, .bool false, .bool false, .bool false, .int .i64 0, .int .i64 0, .int .i64 0, .slice none 0 0] 42)
        refine hK.out _ _ hNext (fun hHeld2 => ?_)
        clear hK K hHeld
        have hHeld := hNext
        clear hHeld2 hNext
        try simp only [Act.put, List.setIfInBounds_toArray, List.set_cons_zero, List.set_cons_succ]
        replace hHeld : Below V.drew.heap.size V.drew (V.alloc (.cells #[.int .i64 0, .int .i64 0, .int .i64 0, .int .i64 0, .int .i64 0, .int .i64 0, .int .i64 0, .string ⟨#[]⟩, .string ⟨#[]⟩, .string ⟨#[]⟩, .string ⟨#[]⟩, .bool false, .bool false, .bool false, .bool false, .int .i64 0, .int .i64 0, .int .i64 0, .slice none 0 0] 42)).drew := hHeld
        refine wpAnyH_ready (rs := [6]) (by kernel_rfl) (by simp) ?_
        refine AllReadyH.cons (o := ⟨some 25, _, _, _, _, _⟩) rfl (fun K hK => ?_) AllReadyH.nil
        go_simp
        go_at_call 20
        (with_reducible refine (HW.out _ (vI.keep hHeld)).mono ?_)
        rintro v w5 ⟨aw, cw, rfl, hdw, hb5⟩
        go_simp
        have hNext := hHeld.trans (hb5.mono hHeld.size)
        refine hK.out _ _ hNext (fun hHeld2 => ?_)
        clear hK K hHeld
        have hHeld := hNext
        clear hHeld2 hNext
        try simp only [Act.put, List.setIfInBounds_toArray, List.set_cons_zero, List.set_cons_succ]
        refine wpAnyH_take (i := 7) (oi := ⟨some 18, _, _, _, _, _⟩) (v := ?_) rfl (by kernel_rfl) (by kernel_rfl) (by kernel_rfl) (fun _ _ _ h => h) (Or.inl ⟨by rfl, ?_⟩) (by assumption) ?_
        case refine_2 => (intro w hSw; go_simp; try with_reducible rfl)
        try simp only [Act.put, List.setIfInBounds_toArray, List.set_cons_zero, List.set_cons_succ]
        refine wpAnyH_take (i := 8) (oi := ⟨some 26, _, _, _, _, _⟩) (v := ?_) rfl (by kernel_rfl) (by kernel_rfl) (by kernel_rfl) (fun _ _ _ h => h) (Or.inl ⟨by rfl, ?_⟩) (by assumption) ?_
        case refine_2 => (intro w hSw; go_simp; try with_reducible rfl)
        try simp only [Act.put, List.setIfInBounds_toArray, List.set_cons_zero, List.set_cons_succ]
        refine wpAnyH_take (i := 9) (oi := ⟨some 27, _, _, _, _, _⟩) (v := ?_) rfl (by kernel_rfl) (by kernel_rfl) (by kernel_rfl) (fun _ _ _ h => h) (Or.inl ⟨by rfl, ?_⟩) (by assumption) ?_
        case refine_2 => (intro w hSw; go_simp; try with_reducible rfl)
        try simp only [Act.put, List.setIfInBounds_toArray, List.set_cons_zero, List.set_cons_succ]
        refine wpAnyH_ready (rs := [11]) (by kernel_rfl) (by simp) ?_
        refine AllReadyH.cons (o := ⟨none, _, _, _, _, _⟩) rfl (fun K hK => ?_) AllReadyH.nil
        have hq0 : w5.heap[V.heap.size]? = some (.cells (evCells ev0 none 0).toArray 42 (0, 0)) := (hb5.block V.drew.heap.size (by show V.heap.size < (V.heap.push _).size; simp)).trans (heap_last0 V _)
        refine step_store_row (by rfl) 42 _ _ rfl (V.heap.size) (evCells r aw cw).toArray rfl rfl 42 _ hq0 (by kernel_rfl) rfl (by kernel_rfl) ?_
        have hNext : Below V.drew.heap.size V.drew (w5.setRow (V.heap.size) (evCells r aw cw).toArray) := below_setRow hHeld (Nat.le_refl _ : V.drew.heap.size ≤ V.heap.size) (evCells r aw cw).toArray
        refine hK.out _ _ hNext (fun hHeld2 => ?_)
        clear hK K hHeld
        have hHeld := hNext
        clear hHeld2 hNext
        try simp only [Act.put, List.setIfInBounds_toArray, List.set_cons_zero, List.set_cons_succ]
        refine wpAnyH_take (i := 12) (oi := ⟨some 7, _, _, _, _, _⟩) (v := ?_) rfl (by kernel_rfl) (by kernel_rfl) (by kernel_rfl) (fun _ _ _ h => h) (Or.inl ⟨by rfl, ?_⟩) (by assumption) ?_
        case refine_2 => (intro w hSw; go_simp; try with_reducible rfl)
        try simp only [Act.put, List.setIfInBounds_toArray, List.set_cons_zero, List.set_cons_succ]
        refine wpAnyH_done (by kernel_rfl) ?_ _
        refine NoPanic.normal ?_
        obtain ⟨X, hX⟩ : ∃ X, X = w5.setRow (V.heap.size) (evCells r aw cw).toArray := ⟨_, rfl⟩
        rw [← hX] at hHeld ⊢
        have hqX : X.heap[V.heap.size]? = some (.cells (evCells r aw cw).toArray 42 (0, 0)) := by rw [hX]; exact setRow_heap _ _ _ _ _ _ hq0
        have hdX : DotsIn X aw r.over := by
          rw [hX]
          exact DotsIn.not0 (hdw) HOK.out hq0 (fun k9 hk9 => heap_setRow_other _ _ _ _ (fun e9 => hk9 e9.symm))
        generalize hqn : V.heap.size = Q at *
        clear hX hq0 hqn hdw hb5
        have hE := ev_range hqX
        have hbX : Below W0.heap.size W0 X := hbWV.trans (hHeld.mono hbWV.size)
        have hEOX := vO.kept hHeld
        have rX := rangeAt_kept vR hHeld
        clear vM vK vR vI vO hHeld hbWV hqX
        have d0 := hE 0 _ rfl
        have d1 := hE 1 _ rfl
        have d2 := hE 2 _ rfl
        have d7 := hE 7 _ rfl
        have d8 := hE 8 _ rfl
        have d9 := hE 9 _ rfl
        have e0 := rX 0 _ rfl
        have e1 := rX 1 _ rfl
        have e2 := rX 2 _ rfl
        simp only [Nat.zero_add] at d0 d1 d2 d7 d8 d9
        simp only [Nat.add_zero] at e0
        have hEq := fun (W : World) => eqDot W 9997 r.dot e.dot
        have hm := noGuardDot
        clear rX
      all_goals
        by_cases hde : r.dot = e.dot
        · rw [decide_eq_true hde] at hEq
          have HS : Hid (insK r (evsOf O) = ((evsOf L).take (k + 1)).foldl (rwStep (rwF L)) []) := by unfold Hid; rw [HT.out, List.foldl_append, ← HOV.out]; show _ = rwStep (rwF L) (evsOf O) e; unfold rwStep; rw [HR.out, if_pos hde]
          clear hde
          go_upto_region 7 with fail
          refine wp_region_after (by kernel_rfl) (by kernel_rfl) (fun WA hWA => ?_)
          have hbA : Below X.heap.size X WA := by rw [hWA.out]; go_grown
          have pd0 : ∀ i : After WA, i.w.cell? ⟨Q, 0, none⟩ = some (.int .i64 r.dot.a.dev) := fun i => i.cell (kept hbA d0)
          have pd1 : ∀ i : After WA, i.w.cell? ⟨Q, 1, none⟩ = some (.int .i64 r.dot.a.inc) := fun i => i.cell (kept hbA d1)
          have pd2 : ∀ i : After WA, i.w.cell? ⟨Q, 2, none⟩ = some (.int .i64 r.dot.seq) := fun i => i.cell (kept hbA d2)
          have pe0 : ∀ i : After WA, i.w.cell? ⟨A, off + k * 19, none⟩ = some (.int .i64 e.dot.a.dev) := fun i => i.cell (kept hbA e0)
          have pe1 : ∀ i : After WA, i.w.cell? ⟨A, off + k * 19 + 1, none⟩ = some (.int .i64 e.dot.a.inc) := fun i => i.cell (kept hbA e1)
          have pe2 : ∀ i : After WA, i.w.cell? ⟨A, off + k * 19 + 2, none⟩ = some (.int .i64 e.dot.seq) := fun i => i.cell (kept hbA e2)
          clear hWA
          go_big_quiet_step (fail)
          go_big_quiet_step (fail)
          go_big_quiet_step (fail)
          go_big_quiet_step (fail)
          go_big_quiet_step (fail)
          go_big_quiet_step (fail)
          go_big_quiet_step (fail)
          go_big_quiet_step (fail)
          refine wpQuiet_nil ?_
          rintro _ ⟨i, rfl⟩
          have hiA := i.h
          generalize i.w = wp at hiA ⊢
          have hbY : Below X.heap.size X wp := below2 hbA hiA
          clear hbA hiA pd0 pd1 pd2 pe0 pe1 pe2
          have hEP := rangeAt_kept hE hbY
          have hdP := hdX.kept hbY
          have hOP := hEOX.kept hbY
          replace hbX := hbX.trans (hbY.mono hbX.size)
          clear hbY hE hdX hEOX d0 d1 d2 d7 d8 d9 e0 e1 e2 hEq hm
          have d7 := hEP 7 _ rfl
          have d8 := hEP 8 _ rfl
          have d9 := hEP 9 _ rfl
          simp only [Nat.zero_add] at d7 d8 d9
          have HC := Lib.hid hOP.cells
          have HER := Lib.hid hEP
          have HD : Hid (∀ z ∈ insKI O (r, aw, cw), DotsIn wp z.2.1 z.1.over) := fun z hz => by
            rcases insKI_mem hz with rfl | hz
            · exact hdP
            · exact hOP.dots z hz
          have hzp := hbX.size
          have HBX := Lib.hid hbX
          clear hdP hEP hbX
          go_wp2
          obtain ⟨wo, rfl⟩ : ∃ wo : World, wo = wp := ⟨_, rfl⟩
          go_loopw [8] (fun i wr => ∃ q : Nat, i = .int .i64 q ∧ q ≤ O.length ∧ aheadK O r.key = q + aheadK (O.drop q) r.key ∧ Below wo.heap.size wo wr) (fun i _ => O.length - (intOf i).toNat)
          case atStart => exact ⟨0, rfl, Nat.zero_le _, by simp, Below.refl _ _⟩
          case round =>
            obtain ⟨q, rfl, hq, hA0, hB⟩ := hrel
            have HA := Lib.hid hA0
            have HQ := Lib.hid hq
            clear hA0
            have c7 := kept hB d7
            have c8 := kept hB d8
            have c9 := kept hB d9
            by_cases hqt : q < O.length
            · obtain ⟨A2, of2, rfl, hra2, _⟩ := (hOP.kept hB).at hqt
              have r2 := hra2 q hqt
              have HY := Lib.hid (fun (h : keyLt O[q].1.key r.key = true) => aheadK_yes hqt h)
              have HN := Lib.hid (fun (h : keyLt O[q].1.key r.key = false) => aheadK_no hqt h)
              have HL1 := fun (X : World) => HLs.out O[q].1.key r.key X
              have HQT := Lib.hid hqt
              have hql : q ≤ 4096 := by omega
              generalize O[q] = y2 at *
              obtain ⟨y, ay, cy⟩ := y2
              simp only [itEv] at r2
              simp only at HY HN HL1
              have f7 := r2 7 _ rfl
              have f8 := r2 8 _ rfl
              have f9 := r2 9 _ rfl
              clear hra2 r2
              cases hly : keyLt y.key r.key with
              | true =>
                rw [hly] at HL1
                have HA2 : Hid (aheadK O r.key = q + 1 + aheadK (O.drop (q + 1)) r.key) := by unfold Hid; rw [HA.out, HY.out hly]; omega
                clear hly
                go_upto_region 9 with fail
                refine wp_region_after (by kernel_rfl) (by kernel_rfl) (fun WA hWA => ?_)
                have hbA : Below wr.heap.size wr WA := by rw [hWA.out]; go_grown
                have pc7 : ∀ i : After WA, i.w.cell? ⟨Q, 7, none⟩ = some (.string r.key.name) := fun i => i.cell (kept hbA c7)
                have pc8 : ∀ i : After WA, i.w.cell? ⟨Q, 8, none⟩ = some (.string r.key.domain) := fun i => i.cell (kept hbA c8)
                have pc9 : ∀ i : After WA, i.w.cell? ⟨Q, 9, none⟩ = some (.string r.key.path) := fun i => i.cell (kept hbA c9)
                have pf7 : ∀ i : After WA, i.w.cell? ⟨A2, of2 + q * 19 + 7, none⟩ = some (.string y.key.name) := fun i => i.cell (kept hbA f7)
                have pf8 : ∀ i : After WA, i.w.cell? ⟨A2, of2 + q * 19 + 8, none⟩ = some (.string y.key.domain) := fun i => i.cell (kept hbA f8)
                have pf9 : ∀ i : After WA, i.w.cell? ⟨A2, of2 + q * 19 + 9, none⟩ = some (.string y.key.path) := fun i => i.cell (kept hbA f9)
                clear hWA
                go_big_quiet_step (fail)
                go_big_quiet_step (fail)
                go_big_quiet_step (fail)
                go_big_quiet_step (fail)
                go_big_quiet_step (fail)
                go_big_quiet_step (fail)
                go_big_quiet_step (fail)
                go_big_quiet_step (fail)
                go_big_quiet_step (fail)
                go_big_quiet_step (fail)
                go_big_quiet_step (fail)
                go_big_quiet_step (fail)
                go_big_quiet_step (exact Calls.after (HL1 _))
                go_big_quiet_step (fail)
                refine wpQuiet_nil ?_
                rintro _ ⟨i, rfl⟩
                have hiA := i.h
                generalize i.w = wq at hiA ⊢
                have hbY : Below wr.heap.size wr wq := below2 hbA hiA
                clear hbA hiA pc7 pc8 pc9 pf7 pf8 pf9
                have HB2 := Lib.hid (hB.trans (hbY.mono hB.size))
                clear hB hbY
                go_wp2
                go_roundw
                case rel => exact ⟨q + 1, by go_num, HQT.out, HA2.out, HB2.out⟩
                case measure => have := HQT.out; simp [intOf] <;> omega
              | false =>
                rw [hly] at HL1
                have HI : Hid (aheadK O r.key = q) := by unfold Hid; rw [HA.out, HN.out hly]; omega
                clear hly
                go_upto_region 9 with fail
                refine wp_region_after (by kernel_rfl) (by kernel_rfl) (fun WA hWA => ?_)
                have hbA : Below wr.heap.size wr WA := by rw [hWA.out]; go_grown
                have pc7 : ∀ i : After WA, i.w.cell? ⟨Q, 7, none⟩ = some (.string r.key.name) := fun i => i.cell (kept hbA c7)
                have pc8 : ∀ i : After WA, i.w.cell? ⟨Q, 8, none⟩ = some (.string r.key.domain) := fun i => i.cell (kept hbA c8)
                have pc9 : ∀ i : After WA, i.w.cell? ⟨Q, 9, none⟩ = some (.string r.key.path) := fun i => i.cell (kept hbA c9)
                have pf7 : ∀ i : After WA, i.w.cell? ⟨A2, of2 + q * 19 + 7, none⟩ = some (.string y.key.name) := fun i => i.cell (kept hbA f7)
                have pf8 : ∀ i : After WA, i.w.cell? ⟨A2, of2 + q * 19 + 8, none⟩ = some (.string y.key.domain) := fun i => i.cell (kept hbA f8)
                have pf9 : ∀ i : After WA, i.w.cell? ⟨A2, of2 + q * 19 + 9, none⟩ = some (.string y.key.path) := fun i => i.cell (kept hbA f9)
                clear hWA
                go_big_quiet_step (fail)
                go_big_quiet_step (fail)
                go_big_quiet_step (fail)
                go_big_quiet_step (fail)
                go_big_quiet_step (fail)
                go_big_quiet_step (fail)
                go_big_quiet_step (fail)
                go_big_quiet_step (fail)
                go_big_quiet_step (fail)
                go_big_quiet_step (fail)
                go_big_quiet_step (fail)
                go_big_quiet_step (fail)
                go_big_quiet_step (exact Calls.after (HL1 _))
                go_big_quiet_step (fail)
                refine wpQuiet_nil ?_
                rintro _ ⟨i, rfl⟩
                have hiA := i.h
                generalize i.w = wq at hiA ⊢
                have hbY : Below wr.heap.size wr wq := below2 hbA hiA
                clear hbA hiA pc7 pc8 pc9 pf7 pf8 pf9
                replace hB := hB.trans (hbY.mono hB.size)
                clear hbY c7 c8 c9
                go_upto_region 11 with fail
                refine wp_name (fun W hW => ?_)
                have hbW : Below wq.heap.size wq W.drew := by rw [hW.out]; go_grown
                have hBW : Below wo.heap.size wo W.drew := hB.trans (hbW.mono hB.size)
                have hinW := HC.out.kept hBW
                have hzW := hBW.size
                have hq := HQ.out
                have hol := HOL.out
                have hcut : ∀ X, (Instr.sliceAt 22 (.slice (some ⟨A2, of2, none⟩) O.length cO) none (some (.int .i64 (q : Nat))) none).run Tryz.prog X = .ok (.slice (some ⟨A2, of2, none⟩) q cO) X := fun X => run_cut_hi X _ _ i0 (some ⟨A2, of2, none⟩) O.length cO .i64 q Tryz.underlying22 hi (by have := HOC.out; omega)
                have hcut2 : ∀ X, (Instr.sliceAt 22 (.slice (some ⟨A2, of2, none⟩) O.length cO) (some (.int .i64 (q : Nat))) none none).run Tryz.prog X = .ok (.slice (cutA (some ⟨A2, of2, none⟩) cO q 19) (O.length - q) (cO - q)) X := fun X => run_cut_lo X _ _ i0 (some ⟨A2, of2, none⟩) O.length cO .i64 q 19 Tryz.underlying22 hi hz1 (by omega)
                have hR1 : ∀ X, Below W.drew.heap.size W.drew X → CellsIn X (some ⟨A2, of2, none⟩) (evItCells (O.take q)) := fun X h => by rw [← evIt_take]; exact (hinW.kept h).take _
                have hR2 : ∀ X, Below W.drew.heap.size W.drew X → CellsIn X (cutA (some ⟨A2, of2, none⟩) cO q 19) (evItCells (O.drop q)) := fun X h => by rw [← evIt_drop]; exact (hinW.kept h).cut (evIt_length O) HOC.out q
                have l1 : (evItCells (O.take q)).length = q * 19 := by rw [evIt_length, List.length_take, Nat.min_eq_left hq]
                have l2 : (evItCells (O.drop q)).length = (O.length - q) * 19 := by rw [evIt_length, List.length_drop]
                have hF : ∀ X, Below W.drew.heap.size W.drew X → X.rangeAt Q 0 (evCells r aw cw) := fun X h => rangeAt_kept (rangeAt_kept HER.out hBW) h
                clear hW
                refine wp_region_noPanic ?_
                refine wp_region_held_drew (S := fun W' => Below W.drew.heap.size W.drew W') (by kernel_rfl) (Below.refl _ _) (fun hHeld => ?_)
                refine wpAnyH_take (i := 1) (oi := ⟨some 53, _, _, _, _, _⟩) (v := ?_) rfl (by kernel_rfl) (by kernel_rfl) (by kernel_rfl) (fun _ _ _ h => h) (Or.inl ⟨by rfl, ?_⟩) (by assumption) ?_
                case refine_2 => (intro w hSw; go_simp; try with_reducible rfl)
                try simp only [Act.put, List.setIfInBounds_toArray, List.set_cons_zero, List.set_cons_succ]
                refine wpAnyH_take (i := 2) (oi := ⟨some 54, _, _, _, _, _⟩) (v := ?_) rfl (by kernel_rfl) (by kernel_rfl) (by kernel_rfl) (fun _ _ _ h => h) (Or.inl ⟨by rfl, ?_⟩) (by assumption) ?_
                case refine_2 => (intro w hSw; go_simp; try with_reducible rfl)
                try simp only [Act.put, List.setIfInBounds_toArray, List.set_cons_zero, List.set_cons_succ]
                refine wpAnyH_take (i := 3) (oi := ⟨some 55, _, _, _, _, _⟩) rfl (by kernel_rfl) (by kernel_rfl) (by kernel_rfl) (fun _ _ _ h => h) (Or.inl ⟨by rfl, fun W hSW => exec_slice _ _ _ _ _ rfl _ (hcut W)⟩) (by assumption) ?_
                try simp only [Act.put, List.setIfInBounds_toArray, List.set_cons_zero, List.set_cons_succ]
                refine wpAnyH_take (i := 5) (oi := ⟨some 57, _, _, _, _, _⟩) rfl (by kernel_rfl) (by kernel_rfl) (by kernel_rfl) (fun _ _ _ h => h) (yieldsIf_load_mid (by rfl) 42 _ rfl Q 0 rfl (evCells r aw cw) _ (fun X h => hF X h) Tryz.underlying42 rfl (by kernel_rfl)) (by assumption) ?_
                try simp only [Act.put, List.setIfInBounds_toArray, List.set_cons_zero, List.set_cons_succ]
                refine wpAnyH_take (i := 8) (oi := ⟨some 60, _, _, _, _, _⟩) (v := ?_) rfl (by kernel_rfl) (by kernel_rfl) (by kernel_rfl) (fun _ _ _ h => h) (Or.inl ⟨by rfl, ?_⟩) (by assumption) ?_
                case refine_2 => (intro w hSw; go_simp; try with_reducible rfl)
                try simp only [Act.put, List.setIfInBounds_toArray, List.set_cons_zero, List.set_cons_succ]
                refine wpAnyH_take (i := 9) (oi := ⟨some 61, _, _, _, _, _⟩) (v := ?_) rfl (by kernel_rfl) (by kernel_rfl) (by kernel_rfl) (fun _ _ _ h => h) (Or.inl ⟨by rfl, ?_⟩) (by assumption) ?_
                case refine_2 => (intro w hSw; go_simp; try with_reducible rfl)
                try simp only [Act.put, List.setIfInBounds_toArray, List.set_cons_zero, List.set_cons_succ]
                refine wpAnyH_take (i := 10) (oi := ⟨some 62, _, _, _, _, _⟩) rfl (by kernel_rfl) (by kernel_rfl) (by kernel_rfl) (fun _ _ _ h => h) (Or.inl ⟨by rfl, fun W hSW => exec_slice _ _ _ _ _ rfl _ (hcut2 W)⟩) (by assumption) ?_
                try simp only [Act.put, List.setIfInBounds_toArray, List.set_cons_zero, List.set_cons_succ]
                refine wpAnyH_ready (rs := [0, 6]) (by kernel_rfl) (by simp) ?_
                refine AllReadyH.cons (o := ⟨some 52, _, _, _, _, _⟩) rfl (fun K hK => ?_) (AllReadyH.cons (o := ⟨some 58, _, _, _, _, _⟩) rfl (fun K hK => ?_) AllReadyH.nil)
                focus
                  refine step_build_nil (by rfl) 22 42 rfl i0 _ 19 Tryz.underlying22 hi hz0 hz1 (by decide) ?_
                  intro v0 X0 hown0 hbel0
                  refine hK.out _ _ ?_ (fun hHeld2 => ?_)
                  · exact hHeld.trans (hbel0.mono hHeld.size)
                  clear hK K hHeld
                  have hHeld := hHeld2
                  clear hHeld2
                  try simp only [Act.put, List.setIfInBounds_toArray, List.set_cons_zero, List.set_cons_succ]
                  refine wpAnyH_ready (rs := [4, 6]) (by kernel_rfl) (by simp) ?_
                  refine AllReadyH.cons (o := ⟨some 56, _, _, _, _, _⟩) rfl (fun K hK => ?_) (AllReadyH.cons (o := ⟨some 58, _, _, _, _, _⟩) rfl (fun K hK => ?_) AllReadyH.nil)
                  focus
                    refine step_append_cells (by rfl) (.tmp 52) (.tmp 55) 22 rfl W.drew.heap.size 42 i0 _ 19 176 Tryz.underlying22 hi hz0 hz1 hz2 rfl (by decide) _ 0 _ rfl hown0 (some ⟨A2, of2, none⟩) q cO (evItCells (O.take q)) rfl l1 (hR1 _ hHeld) (evIt_one _) (by first | omega | (unfold maxLen; omega)) (by first | omega | (unfold maxLen; omega)) hHeld.size ?_
                    intro v1 X1 hown1 hg1
                    refine hK.out _ _ ?_ (fun hHeld2 => ?_)
                    · exact hHeld.grown hg1 hHeld.size (fun k hk => (hown0.lt k hk).1)
                    clear hK K hHeld
                    have hHeld := hHeld2
                    clear hHeld2
                    try simp only [Act.put, List.setIfInBounds_toArray, List.set_cons_zero, List.set_cons_succ]
                    refine wpAnyH_ready (rs := [6]) (by kernel_rfl) (by simp) ?_
                    refine AllReadyH.cons (o := ⟨some 58, _, _, _, _, _⟩) rfl (fun K hK => ?_) AllReadyH.nil
                    refine step_build_one (by rfl) 22 42 _ rfl (evCells r aw cw).toArray 19 rfl rfl (by decide) (by decide) Tryz.underlying22 (by kernel_rfl) (by kernel_rfl) ?_
                    refine hK.out _ _ ?_ (fun hHeld2 => ?_)
                    · exact hHeld.alloc hHeld.size _
                    clear hK K hHeld
                    have hHeld := hHeld2
                    clear hHeld2
                    try simp only [Act.put, List.setIfInBounds_toArray, List.set_cons_zero, List.set_cons_succ]
                    have hN := (fun X => ev_cells_new X r aw cw) X1
                    refine wpAnyH_ready (rs := [7]) (by kernel_rfl) (by simp) ?_
                    refine AllReadyH.cons (o := ⟨some 59, _, _, _, _, _⟩) rfl (fun K hK => ?_) AllReadyH.nil
                    refine step_append_cells (by rfl) (.tmp 56) (.tmp 58) 22 rfl W.drew.heap.size 42 i0 _ 19 176 Tryz.underlying22 hi hz0 hz1 hz2 rfl (by decide) _ (0 + q) _ rfl (hown1.alloc _) (some ⟨X1.heap.size, 0, none⟩) 1 1 (evCells r aw cw) rfl rfl hN (evCells_one _ _ _) (by first | omega | (unfold maxLen; omega)) (by first | omega | (unfold maxLen; omega)) hHeld.size ?_
                    intro v2 X2 hown2 hg2
                    refine hK.out _ _ ?_ (fun hHeld2 => ?_)
                    · exact hHeld.grown hg2 hHeld.size (fun k hk => (hown1.lt k hk).1)
                    clear hK K hHeld
                    have hHeld := hHeld2
                    clear hHeld2
                    try simp only [Act.put, List.setIfInBounds_toArray, List.set_cons_zero, List.set_cons_succ]
                  rotate_left 1
                  focus
                    refine step_build_one (by rfl) 22 42 _ rfl (evCells r aw cw).toArray 19 rfl rfl (by decide) (by decide) Tryz.underlying22 (by kernel_rfl) (by kernel_rfl) ?_
                    refine hK.out _ _ ?_ (fun hHeld2 => ?_)
                    · exact hHeld.alloc hHeld.size _
                    clear hK K hHeld
                    have hHeld := hHeld2
                    clear hHeld2
                    try simp only [Act.put, List.setIfInBounds_toArray, List.set_cons_zero, List.set_cons_succ]
                    have hN := (fun X => ev_cells_new X r aw cw) X0
                    refine wpAnyH_ready (rs := [4]) (by kernel_rfl) (by simp) ?_
                    refine AllReadyH.cons (o := ⟨some 56, _, _, _, _, _⟩) rfl (fun K hK => ?_) AllReadyH.nil
                    refine step_append_cells (by rfl) (.tmp 52) (.tmp 55) 22 rfl W.drew.heap.size 42 i0 _ 19 176 Tryz.underlying22 hi hz0 hz1 hz2 rfl (by decide) _ 0 _ rfl (hown0.alloc _) (some ⟨A2, of2, none⟩) q cO (evItCells (O.take q)) rfl l1 (hR1 _ hHeld) (evIt_one _) (by first | omega | (unfold maxLen; omega)) (by first | omega | (unfold maxLen; omega)) hHeld.size ?_
                    intro v1 X1 hown1 hg1
                    refine hK.out _ _ ?_ (fun hHeld2 => ?_)
                    · exact hHeld.grown hg1 hHeld.size (fun k hk => (hown0.lt k hk).1)
                    clear hK K hHeld
                    have hHeld := hHeld2
                    clear hHeld2
                    try simp only [Act.put, List.setIfInBounds_toArray, List.set_cons_zero, List.set_cons_succ]
                    replace hN := hN.grown hg1 (fun q hq e => by have := (hown0.lt _ e).2; simp only [Option.some.injEq] at hq; subst hq; simp only at this; omega)
                    refine wpAnyH_ready (rs := [7]) (by kernel_rfl) (by simp) ?_
                    refine AllReadyH.cons (o := ⟨some 59, _, _, _, _, _⟩) rfl (fun K hK => ?_) AllReadyH.nil
                    refine step_append_cells (by rfl) (.tmp 56) (.tmp 58) 22 rfl W.drew.heap.size 42 i0 _ 19 176 Tryz.underlying22 hi hz0 hz1 hz2 rfl (by decide) _ (0 + q) _ rfl hown1 (some ⟨X0.heap.size, 0, none⟩) 1 1 (evCells r aw cw) rfl rfl hN (evCells_one _ _ _) (by first | omega | (unfold maxLen; omega)) (by first | omega | (unfold maxLen; omega)) hHeld.size ?_
                    intro v2 X2 hown2 hg2
                    refine hK.out _ _ ?_ (fun hHeld2 => ?_)
                    · exact hHeld.grown hg2 hHeld.size (fun k hk => (hown1.lt k hk).1)
                    clear hK K hHeld
                    have hHeld := hHeld2
                    clear hHeld2
                    try simp only [Act.put, List.setIfInBounds_toArray, List.set_cons_zero, List.set_cons_succ]
                rotate_left 2
                focus
                  refine step_build_one (by rfl) 22 42 _ rfl (evCells r aw cw).toArray 19 rfl rfl (by decide) (by decide) Tryz.underlying22 (by kernel_rfl) (by kernel_rfl) ?_
                  refine hK.out _ _ ?_ (fun hHeld2 => ?_)
                  · exact hHeld.alloc hHeld.size _
                  clear hK K hHeld
                  have hHeld := hHeld2
                  clear hHeld2
                  try simp only [Act.put, List.setIfInBounds_toArray, List.set_cons_zero, List.set_cons_succ]
                  have hN := (fun X => ev_cells_new X r aw cw) W.drew
                  refine wpAnyH_ready (rs := [0]) (by kernel_rfl) (by simp) ?_
                  refine AllReadyH.cons (o := ⟨some 52, _, _, _, _, _⟩) rfl (fun K hK => ?_) AllReadyH.nil
                  refine step_build_nil (by rfl) 22 42 rfl i0 _ 19 Tryz.underlying22 hi hz0 hz1 (by decide) ?_
                  intro v0 X0 hown0 hbel0
                  refine hK.out _ _ ?_ (fun hHeld2 => ?_)
                  · exact hHeld.trans (hbel0.mono hHeld.size)
                  clear hK K hHeld
                  have hHeld := hHeld2
                  clear hHeld2
                  try simp only [Act.put, List.setIfInBounds_toArray, List.set_cons_zero, List.set_cons_succ]
                  replace hN := hN.kept hbel0
                  have hownB := hown0
                  replace hown0 := own_base hown0 (b2 := W.drew.heap.size) (by first | exact Nat.le_refl _ | simp)
                  refine wpAnyH_ready (rs := [4]) (by kernel_rfl) (by simp) ?_
                  refine AllReadyH.cons (o := ⟨some 56, _, _, _, _, _⟩) rfl (fun K hK => ?_) AllReadyH.nil
                  refine step_append_cells (by rfl) (.tmp 52) (.tmp 55) 22 rfl W.drew.heap.size 42 i0 _ 19 176 Tryz.underlying22 hi hz0 hz1 hz2 rfl (by decide) _ 0 _ rfl hown0 (some ⟨A2, of2, none⟩) q cO (evItCells (O.take q)) rfl l1 (hR1 _ hHeld) (evIt_one _) (by first | omega | (unfold maxLen; omega)) (by first | omega | (unfold maxLen; omega)) hHeld.size ?_
                  intro v1 X1 hown1 hg1
                  refine hK.out _ _ ?_ (fun hHeld2 => ?_)
                  · exact hHeld.grown hg1 hHeld.size (fun k hk => (hown0.lt k hk).1)
                  clear hK K hHeld
                  have hHeld := hHeld2
                  clear hHeld2
                  try simp only [Act.put, List.setIfInBounds_toArray, List.set_cons_zero, List.set_cons_succ]
                  replace hN := hN.grown hg1 (fun q hq e => by have := (hownB.lt _ e).1; simp only [Option.some.injEq] at hq; subst hq; simp at this; omega)
                  refine wpAnyH_ready (rs := [7]) (by kernel_rfl) (by simp) ?_
                  refine AllReadyH.cons (o := ⟨some 59, _, _, _, _, _⟩) rfl (fun K hK => ?_) AllReadyH.nil
                  refine step_append_cells (by rfl) (.tmp 56) (.tmp 58) 22 rfl W.drew.heap.size 42 i0 _ 19 176 Tryz.underlying22 hi hz0 hz1 hz2 rfl (by decide) _ (0 + q) _ rfl hown1 (some ⟨W.drew.heap.size, 0, none⟩) 1 1 (evCells r aw cw) rfl rfl hN (evCells_one _ _ _) (by first | omega | (unfold maxLen; omega)) (by first | omega | (unfold maxLen; omega)) hHeld.size ?_
                  intro v2 X2 hown2 hg2
                  refine hK.out _ _ ?_ (fun hHeld2 => ?_)
                  · exact hHeld.grown hg2 hHeld.size (fun k hk => (hown1.lt k hk).1)
                  clear hK K hHeld
                  have hHeld := hHeld2
                  clear hHeld2
                  try simp only [Act.put, List.setIfInBounds_toArray, List.set_cons_zero, List.set_cons_succ]
                all_goals
                  refine wpAnyH_ready (rs := [11]) (by kernel_rfl) (by simp) ?_
                  refine AllReadyH.cons (o := ⟨some 63, _, _, _, _, _⟩) rfl (fun K hK => ?_) AllReadyH.nil
                  refine step_append_cells (by rfl) (.tmp 59) (.tmp 62) 22 rfl W.drew.heap.size 42 i0 _ 19 176 Tryz.underlying22 hi hz0 hz1 hz2 rfl (by decide) _ (0 + q + 1) _ rfl hown2 (cutA (some ⟨A2, of2, none⟩) cO q 19) (O.length - q) (cO - q) (evItCells (O.drop q)) rfl l2 (hR2 _ hHeld) (evIt_one _) (by first | omega | (unfold maxLen; omega)) (by first | omega | (unfold maxLen; omega)) hHeld.size ?_
                  intro v3 X3 hown3 hg3
                  refine hK.out _ _ ?_ (fun hHeld2 => ?_)
                  · exact hHeld.grown hg3 hHeld.size (fun k hk => (hown2.lt k hk).1)
                  clear hK K hHeld
                  have hHeld := hHeld2
                  clear hHeld2
                  try simp only [Act.put, List.setIfInBounds_toArray, List.set_cons_zero, List.set_cons_succ]
                  refine wpAnyH_take (i := 12) (oi := ⟨some 3, _, _, _, _, _⟩) (v := ?_) rfl (by kernel_rfl) (by kernel_rfl) (by kernel_rfl) (fun _ _ _ h => h) (Or.inl ⟨by rfl, ?_⟩) (by assumption) ?_
                  case refine_2 => (intro w hSw; go_simp; try with_reducible rfl)
                  try simp only [Act.put, List.setIfInBounds_toArray, List.set_cons_zero, List.set_cons_succ]
                  refine wpAnyH_done (by kernel_rfl) ?_ _
                  refine NoPanic.normal ?_
                  have e1 : [] ++ evItCells (O.take q) ++ evCells r aw cw ++ evItCells (O.drop q) = evItCells (insKI O (r, aw, cw)) := by unfold insKI; rw [HI.out]; simp [evItCells]
                  have e2 : 0 + q + 1 + (O.length - q) = (insKI O (r, aw, cw)).length := by rw [insKI_len]; omega
                  rw [e1, e2] at hown3
                  obtain ⟨a2, c2, rfl, hcell2, hc2⟩ := own_cellsIn hown3
                  obtain ⟨a3, c3, he3, hin3⟩ := evsIn_own hown3 (fun x hx => (HD.out x hx).kept (hBW.trans (hHeld.mono hzW)))
                  obtain ⟨rfl, rfl⟩ : a2 = a3 ∧ c2 = c3 := by cases he3; exact ⟨rfl, rfl⟩
                  have HZ := Lib.hid (And.intro hin3 (And.intro hc2 (HBX.out.trans ((hBW.trans (hHeld.mono hzW)).mono hzp))))
                  clear e1 e2 hR1 hR2 l1 l2 hF hcut hcut2 hown3 hHeld hinW hBW hbW hin3 hcell2 hc2 he3
                  go_wp2
                  go_roundw
                  case rel => exact ⟨k + 1, a2, insKI O (r, aw, cw), c2, by go_num, HLT.out, rfl, HZ.out.1, HZ.out.2.1, by rw [insKI_len]; exact Nat.succ_le_succ HOL.out, by rw [evsOf_insK]; exact HS.out, HZ.out.2.2⟩
                  case measure => have := HLT.out; simp [intOf] <;> omega
            · have HI : Hid (aheadK O r.key = q) := by unfold Hid; rw [HA.out, List.drop_eq_nil_of_le (by omega)]; rfl
              have hqd : decide (q < O.length) = false := decide_eq_false hqt
              have hqi : decide ((q : Int) < (O.length : Int)) = false := decide_eq_false (by omega)
              go_upto_region 9 with fail
              refine wp_region_after (by kernel_rfl) (by kernel_rfl) (fun WA hWA => ?_)
              have hbA : Below wr.heap.size wr WA := by rw [hWA.out]; go_grown
              have pc7 : ∀ i : After WA, i.w.cell? ⟨Q, 7, none⟩ = some (.string r.key.name) := fun i => i.cell (kept hbA c7)
              have pc8 : ∀ i : After WA, i.w.cell? ⟨Q, 8, none⟩ = some (.string r.key.domain) := fun i => i.cell (kept hbA c8)
              have pc9 : ∀ i : After WA, i.w.cell? ⟨Q, 9, none⟩ = some (.string r.key.path) := fun i => i.cell (kept hbA c9)
              clear hWA
              go_big_quiet_step (fail)
              go_big_quiet_step (fail)
              go_big_quiet_step (fail)
              go_big_quiet_step (fail)
              go_big_quiet_step (fail)
              go_big_quiet_step (fail)
              go_big_quiet_step (fail)
              go_big_quiet_step (fail)
              go_big_quiet_step (fail)
              go_big_quiet_step (fail)
              go_big_quiet_step (fail)
              go_big_quiet_step (fail)
              go_big_quiet_step (fail)
              go_big_quiet_step (fail)
              refine wpQuiet_nil ?_
              rintro _ ⟨i, rfl⟩
              have hiA := i.h
              generalize i.w = wq at hiA ⊢
              have hbY : Below wr.heap.size wr wq := below2 hbA hiA
              clear hbA hiA pc7 pc8 pc9
              replace hB := hB.trans (hbY.mono hB.size)
              clear hbY c7 c8 c9
              go_upto_region 11 with fail
              refine wp_name (fun W hW => ?_)
              have hbW : Below wq.heap.size wq W.drew := by rw [hW.out]; go_grown
              have hBW : Below wo.heap.size wo W.drew := hB.trans (hbW.mono hB.size)
              have hinW := HC.out.kept hBW
              have hzW := hBW.size
              have hq := HQ.out
              have hol := HOL.out
              have hcut : ∀ X, (Instr.sliceAt 22 (.slice aO O.length cO) none (some (.int .i64 (q : Nat))) none).run Tryz.prog X = .ok (.slice aO q cO) X := fun X => run_cut_hi X _ _ i0 aO O.length cO .i64 q Tryz.underlying22 hi (by have := HOC.out; omega)
              have hcut2 : ∀ X, (Instr.sliceAt 22 (.slice aO O.length cO) (some (.int .i64 (q : Nat))) none none).run Tryz.prog X = .ok (.slice (cutA aO cO q 19) (O.length - q) (cO - q)) X := fun X => run_cut_lo X _ _ i0 aO O.length cO .i64 q 19 Tryz.underlying22 hi hz1 (by omega)
              have hR1 : ∀ X, Below W.drew.heap.size W.drew X → CellsIn X aO (evItCells (O.take q)) := fun X h => by rw [← evIt_take]; exact (hinW.kept h).take _
              have hR2 : ∀ X, Below W.drew.heap.size W.drew X → CellsIn X (cutA aO cO q 19) (evItCells (O.drop q)) := fun X h => by rw [← evIt_drop]; exact (hinW.kept h).cut (evIt_length O) HOC.out q
              have l1 : (evItCells (O.take q)).length = q * 19 := by rw [evIt_length, List.length_take, Nat.min_eq_left hq]
              have l2 : (evItCells (O.drop q)).length = (O.length - q) * 19 := by rw [evIt_length, List.length_drop]
              have hF : ∀ X, Below W.drew.heap.size W.drew X → X.rangeAt Q 0 (evCells r aw cw) := fun X h => rangeAt_kept (rangeAt_kept HER.out hBW) h
              clear hW
              refine wp_region_noPanic ?_
              refine wp_region_held_drew (S := fun W' => Below W.drew.heap.size W.drew W') (by kernel_rfl) (Below.refl _ _) (fun hHeld => ?_)
              refine wpAnyH_take (i := 1) (oi := ⟨some 53, _, _, _, _, _⟩) (v := ?_) rfl (by kernel_rfl) (by kernel_rfl) (by kernel_rfl) (fun _ _ _ h => h) (Or.inl ⟨by rfl, ?_⟩) (by assumption) ?_
              case refine_2 => (intro w hSw; go_simp; try with_reducible rfl)
              try simp only [Act.put, List.setIfInBounds_toArray, List.set_cons_zero, List.set_cons_succ]
              refine wpAnyH_take (i := 2) (oi := ⟨some 54, _, _, _, _, _⟩) (v := ?_) rfl (by kernel_rfl) (by kernel_rfl) (by kernel_rfl) (fun _ _ _ h => h) (Or.inl ⟨by rfl, ?_⟩) (by assumption) ?_
              case refine_2 => (intro w hSw; go_simp; try with_reducible rfl)
              try simp only [Act.put, List.setIfInBounds_toArray, List.set_cons_zero, List.set_cons_succ]
              refine wpAnyH_take (i := 3) (oi := ⟨some 55, _, _, _, _, _⟩) rfl (by kernel_rfl) (by kernel_rfl) (by kernel_rfl) (fun _ _ _ h => h) (Or.inl ⟨by rfl, fun W hSW => exec_slice _ _ _ _ _ rfl _ (hcut W)⟩) (by assumption) ?_
              try simp only [Act.put, List.setIfInBounds_toArray, List.set_cons_zero, List.set_cons_succ]
              refine wpAnyH_take (i := 5) (oi := ⟨some 57, _, _, _, _, _⟩) rfl (by kernel_rfl) (by kernel_rfl) (by kernel_rfl) (fun _ _ _ h => h) (yieldsIf_load_mid (by rfl) 42 _ rfl Q 0 rfl (evCells r aw cw) _ (fun X h => hF X h) Tryz.underlying42 rfl (by kernel_rfl)) (by assumption) ?_
              try simp only [Act.put, List.setIfInBounds_toArray, List.set_cons_zero, List.set_cons_succ]
              refine wpAnyH_take (i := 8) (oi := ⟨some 60, _, _, _, _, _⟩) (v := ?_) rfl (by kernel_rfl) (by kernel_rfl) (by kernel_rfl) (fun _ _ _ h => h) (Or.inl ⟨by rfl, ?_⟩) (by assumption) ?_
              case refine_2 => (intro w hSw; go_simp; try with_reducible rfl)
              try simp only [Act.put, List.setIfInBounds_toArray, List.set_cons_zero, List.set_cons_succ]
              refine wpAnyH_take (i := 9) (oi := ⟨some 61, _, _, _, _, _⟩) (v := ?_) rfl (by kernel_rfl) (by kernel_rfl) (by kernel_rfl) (fun _ _ _ h => h) (Or.inl ⟨by rfl, ?_⟩) (by assumption) ?_
              case refine_2 => (intro w hSw; go_simp; try with_reducible rfl)
              try simp only [Act.put, List.setIfInBounds_toArray, List.set_cons_zero, List.set_cons_succ]
              refine wpAnyH_take (i := 10) (oi := ⟨some 62, _, _, _, _, _⟩) rfl (by kernel_rfl) (by kernel_rfl) (by kernel_rfl) (fun _ _ _ h => h) (Or.inl ⟨by rfl, fun W hSW => exec_slice _ _ _ _ _ rfl _ (hcut2 W)⟩) (by assumption) ?_
              try simp only [Act.put, List.setIfInBounds_toArray, List.set_cons_zero, List.set_cons_succ]
              refine wpAnyH_ready (rs := [0, 6]) (by kernel_rfl) (by simp) ?_
              refine AllReadyH.cons (o := ⟨some 52, _, _, _, _, _⟩) rfl (fun K hK => ?_) (AllReadyH.cons (o := ⟨some 58, _, _, _, _, _⟩) rfl (fun K hK => ?_) AllReadyH.nil)
              focus
                refine step_build_nil (by rfl) 22 42 rfl i0 _ 19 Tryz.underlying22 hi hz0 hz1 (by decide) ?_
                intro v0 X0 hown0 hbel0
                refine hK.out _ _ ?_ (fun hHeld2 => ?_)
                · exact hHeld.trans (hbel0.mono hHeld.size)
                clear hK K hHeld
                have hHeld := hHeld2
                clear hHeld2
                try simp only [Act.put, List.setIfInBounds_toArray, List.set_cons_zero, List.set_cons_succ]
                refine wpAnyH_ready (rs := [4, 6]) (by kernel_rfl) (by simp) ?_
                refine AllReadyH.cons (o := ⟨some 56, _, _, _, _, _⟩) rfl (fun K hK => ?_) (AllReadyH.cons (o := ⟨some 58, _, _, _, _, _⟩) rfl (fun K hK => ?_) AllReadyH.nil)
                focus
                  refine step_append_cells (by rfl) (.tmp 52) (.tmp 55) 22 rfl W.drew.heap.size 42 i0 _ 19 176 Tryz.underlying22 hi hz0 hz1 hz2 rfl (by decide) _ 0 _ rfl hown0 aO q cO (evItCells (O.take q)) rfl l1 (hR1 _ hHeld) (evIt_one _) (by first | omega | (unfold maxLen; omega)) (by first | omega | (unfold maxLen; omega)) hHeld.size ?_
                  intro v1 X1 hown1 hg1
                  refine hK.out _ _ ?_ (fun hHeld2 => ?_)
                  · exact hHeld.grown hg1 hHeld.size (fun k hk => (hown0.lt k hk).1)
                  clear hK K hHeld
                  have hHeld := hHeld2
                  clear hHeld2
                  try simp only [Act.put, List.setIfInBounds_toArray, List.set_cons_zero, List.set_cons_succ]
                  refine wpAnyH_ready (rs := [6]) (by kernel_rfl) (by simp) ?_
                  refine AllReadyH.cons (o := ⟨some 58, _, _, _, _, _⟩) rfl (fun K hK => ?_) AllReadyH.nil
                  refine step_build_one (by rfl) 22 42 _ rfl (evCells r aw cw).toArray 19 rfl rfl (by decide) (by decide) Tryz.underlying22 (by kernel_rfl) (by kernel_rfl) ?_
                  refine hK.out _ _ ?_ (fun hHeld2 => ?_)
                  · exact hHeld.alloc hHeld.size _
                  clear hK K hHeld
                  have hHeld := hHeld2
                  clear hHeld2
                  try simp only [Act.put, List.setIfInBounds_toArray, List.set_cons_zero, List.set_cons_succ]
                  have hN := (fun X => ev_cells_new X r aw cw) X1
                  refine wpAnyH_ready (rs := [7]) (by kernel_rfl) (by simp) ?_
                  refine AllReadyH.cons (o := ⟨some 59, _, _, _, _, _⟩) rfl (fun K hK => ?_) AllReadyH.nil
                  refine step_append_cells (by rfl) (.tmp 56) (.tmp 58) 22 rfl W.drew.heap.size 42 i0 _ 19 176 Tryz.underlying22 hi hz0 hz1 hz2 rfl (by decide) _ (0 + q) _ rfl (hown1.alloc _) (some ⟨X1.heap.size, 0, none⟩) 1 1 (evCells r aw cw) rfl rfl hN (evCells_one _ _ _) (by first | omega | (unfold maxLen; omega)) (by first | omega | (unfold maxLen; omega)) hHeld.size ?_
                  intro v2 X2 hown2 hg2
                  refine hK.out _ _ ?_ (fun hHeld2 => ?_)
                  · exact hHeld.grown hg2 hHeld.size (fun k hk => (hown1.lt k hk).1)
                  clear hK K hHeld
                  have hHeld := hHeld2
                  clear hHeld2
                  try simp only [Act.put, List.setIfInBounds_toArray, List.set_cons_zero, List.set_cons_succ]
                rotate_left 1
                focus
                  refine step_build_one (by rfl) 22 42 _ rfl (evCells r aw cw).toArray 19 rfl rfl (by decide) (by decide) Tryz.underlying22 (by kernel_rfl) (by kernel_rfl) ?_
                  refine hK.out _ _ ?_ (fun hHeld2 => ?_)
                  · exact hHeld.alloc hHeld.size _
                  clear hK K hHeld
                  have hHeld := hHeld2
                  clear hHeld2
                  try simp only [Act.put, List.setIfInBounds_toArray, List.set_cons_zero, List.set_cons_succ]
                  have hN := (fun X => ev_cells_new X r aw cw) X0
                  refine wpAnyH_ready (rs := [4]) (by kernel_rfl) (by simp) ?_
                  refine AllReadyH.cons (o := ⟨some 56, _, _, _, _, _⟩) rfl (fun K hK => ?_) AllReadyH.nil
                  refine step_append_cells (by rfl) (.tmp 52) (.tmp 55) 22 rfl W.drew.heap.size 42 i0 _ 19 176 Tryz.underlying22 hi hz0 hz1 hz2 rfl (by decide) _ 0 _ rfl (hown0.alloc _) aO q cO (evItCells (O.take q)) rfl l1 (hR1 _ hHeld) (evIt_one _) (by first | omega | (unfold maxLen; omega)) (by first | omega | (unfold maxLen; omega)) hHeld.size ?_
                  intro v1 X1 hown1 hg1
                  refine hK.out _ _ ?_ (fun hHeld2 => ?_)
                  · exact hHeld.grown hg1 hHeld.size (fun k hk => (hown0.lt k hk).1)
                  clear hK K hHeld
                  have hHeld := hHeld2
                  clear hHeld2
                  try simp only [Act.put, List.setIfInBounds_toArray, List.set_cons_zero, List.set_cons_succ]
                  replace hN := hN.grown hg1 (fun q hq e => by have := (hown0.lt _ e).2; simp only [Option.some.injEq] at hq; subst hq; simp only at this; omega)
                  refine wpAnyH_ready (rs := [7]) (by kernel_rfl) (by simp) ?_
                  refine AllReadyH.cons (o := ⟨some 59, _, _, _, _, _⟩) rfl (fun K hK => ?_) AllReadyH.nil
                  refine step_append_cells (by rfl) (.tmp 56) (.tmp 58) 22 rfl W.drew.heap.size 42 i0 _ 19 176 Tryz.underlying22 hi hz0 hz1 hz2 rfl (by decide) _ (0 + q) _ rfl hown1 (some ⟨X0.heap.size, 0, none⟩) 1 1 (evCells r aw cw) rfl rfl hN (evCells_one _ _ _) (by first | omega | (unfold maxLen; omega)) (by first | omega | (unfold maxLen; omega)) hHeld.size ?_
                  intro v2 X2 hown2 hg2
                  refine hK.out _ _ ?_ (fun hHeld2 => ?_)
                  · exact hHeld.grown hg2 hHeld.size (fun k hk => (hown1.lt k hk).1)
                  clear hK K hHeld
                  have hHeld := hHeld2
                  clear hHeld2
                  try simp only [Act.put, List.setIfInBounds_toArray, List.set_cons_zero, List.set_cons_succ]
              rotate_left 2
              focus
                refine step_build_one (by rfl) 22 42 _ rfl (evCells r aw cw).toArray 19 rfl rfl (by decide) (by decide) Tryz.underlying22 (by kernel_rfl) (by kernel_rfl) ?_
                refine hK.out _ _ ?_ (fun hHeld2 => ?_)
                · exact hHeld.alloc hHeld.size _
                clear hK K hHeld
                have hHeld := hHeld2
                clear hHeld2
                try simp only [Act.put, List.setIfInBounds_toArray, List.set_cons_zero, List.set_cons_succ]
                have hN := (fun X => ev_cells_new X r aw cw) W.drew
                refine wpAnyH_ready (rs := [0]) (by kernel_rfl) (by simp) ?_
                refine AllReadyH.cons (o := ⟨some 52, _, _, _, _, _⟩) rfl (fun K hK => ?_) AllReadyH.nil
                refine step_build_nil (by rfl) 22 42 rfl i0 _ 19 Tryz.underlying22 hi hz0 hz1 (by decide) ?_
                intro v0 X0 hown0 hbel0
                refine hK.out _ _ ?_ (fun hHeld2 => ?_)
                · exact hHeld.trans (hbel0.mono hHeld.size)
                clear hK K hHeld
                have hHeld := hHeld2
                clear hHeld2
                try simp only [Act.put, List.setIfInBounds_toArray, List.set_cons_zero, List.set_cons_succ]
                replace hN := hN.kept hbel0
                have hownB := hown0
                replace hown0 := own_base hown0 (b2 := W.drew.heap.size) (by first | exact Nat.le_refl _ | simp)
                refine wpAnyH_ready (rs := [4]) (by kernel_rfl) (by simp) ?_
                refine AllReadyH.cons (o := ⟨some 56, _, _, _, _, _⟩) rfl (fun K hK => ?_) AllReadyH.nil
                refine step_append_cells (by rfl) (.tmp 52) (.tmp 55) 22 rfl W.drew.heap.size 42 i0 _ 19 176 Tryz.underlying22 hi hz0 hz1 hz2 rfl (by decide) _ 0 _ rfl hown0 aO q cO (evItCells (O.take q)) rfl l1 (hR1 _ hHeld) (evIt_one _) (by first | omega | (unfold maxLen; omega)) (by first | omega | (unfold maxLen; omega)) hHeld.size ?_
                intro v1 X1 hown1 hg1
                refine hK.out _ _ ?_ (fun hHeld2 => ?_)
                · exact hHeld.grown hg1 hHeld.size (fun k hk => (hown0.lt k hk).1)
                clear hK K hHeld
                have hHeld := hHeld2
                clear hHeld2
                try simp only [Act.put, List.setIfInBounds_toArray, List.set_cons_zero, List.set_cons_succ]
                replace hN := hN.grown hg1 (fun q hq e => by have := (hownB.lt _ e).1; simp only [Option.some.injEq] at hq; subst hq; simp at this; omega)
                refine wpAnyH_ready (rs := [7]) (by kernel_rfl) (by simp) ?_
                refine AllReadyH.cons (o := ⟨some 59, _, _, _, _, _⟩) rfl (fun K hK => ?_) AllReadyH.nil
                refine step_append_cells (by rfl) (.tmp 56) (.tmp 58) 22 rfl W.drew.heap.size 42 i0 _ 19 176 Tryz.underlying22 hi hz0 hz1 hz2 rfl (by decide) _ (0 + q) _ rfl hown1 (some ⟨W.drew.heap.size, 0, none⟩) 1 1 (evCells r aw cw) rfl rfl hN (evCells_one _ _ _) (by first | omega | (unfold maxLen; omega)) (by first | omega | (unfold maxLen; omega)) hHeld.size ?_
                intro v2 X2 hown2 hg2
                refine hK.out _ _ ?_ (fun hHeld2 => ?_)
                · exact hHeld.grown hg2 hHeld.size (fun k hk => (hown1.lt k hk).1)
                clear hK K hHeld
                have hHeld := hHeld2
                clear hHeld2
                try simp only [Act.put, List.setIfInBounds_toArray, List.set_cons_zero, List.set_cons_succ]
              all_goals
                refine wpAnyH_ready (rs := [11]) (by kernel_rfl) (by simp) ?_
                refine AllReadyH.cons (o := ⟨some 63, _, _, _, _, _⟩) rfl (fun K hK => ?_) AllReadyH.nil
                refine step_append_cells (by rfl) (.tmp 59) (.tmp 62) 22 rfl W.drew.heap.size 42 i0 _ 19 176 Tryz.underlying22 hi hz0 hz1 hz2 rfl (by decide) _ (0 + q + 1) _ rfl hown2 (cutA aO cO q 19) (O.length - q) (cO - q) (evItCells (O.drop q)) rfl l2 (hR2 _ hHeld) (evIt_one _) (by first | omega | (unfold maxLen; omega)) (by first | omega | (unfold maxLen; omega)) hHeld.size ?_
                intro v3 X3 hown3 hg3
                refine hK.out _ _ ?_ (fun hHeld2 => ?_)
                · exact hHeld.grown hg3 hHeld.size (fun k hk => (hown2.lt k hk).1)
                clear hK K hHeld
                have hHeld := hHeld2
                clear hHeld2
                try simp only [Act.put, List.setIfInBounds_toArray, List.set_cons_zero, List.set_cons_succ]
                refine wpAnyH_take (i := 12) (oi := ⟨some 3, _, _, _, _, _⟩) (v := ?_) rfl (by kernel_rfl) (by kernel_rfl) (by kernel_rfl) (fun _ _ _ h => h) (Or.inl ⟨by rfl, ?_⟩) (by assumption) ?_
                case refine_2 => (intro w hSw; go_simp; try with_reducible rfl)
                try simp only [Act.put, List.setIfInBounds_toArray, List.set_cons_zero, List.set_cons_succ]
                refine wpAnyH_done (by kernel_rfl) ?_ _
                refine NoPanic.normal ?_
                have e1 : [] ++ evItCells (O.take q) ++ evCells r aw cw ++ evItCells (O.drop q) = evItCells (insKI O (r, aw, cw)) := by unfold insKI; rw [HI.out]; simp [evItCells]
                have e2 : 0 + q + 1 + (O.length - q) = (insKI O (r, aw, cw)).length := by rw [insKI_len]; omega
                rw [e1, e2] at hown3
                obtain ⟨a2, c2, rfl, hcell2, hc2⟩ := own_cellsIn hown3
                obtain ⟨a3, c3, he3, hin3⟩ := evsIn_own hown3 (fun x hx => (HD.out x hx).kept (hBW.trans (hHeld.mono hzW)))
                obtain ⟨rfl, rfl⟩ : a2 = a3 ∧ c2 = c3 := by cases he3; exact ⟨rfl, rfl⟩
                have HZ := Lib.hid (And.intro hin3 (And.intro hc2 (HBX.out.trans ((hBW.trans (hHeld.mono hzW)).mono hzp))))
                clear e1 e2 hR1 hR2 l1 l2 hF hcut hcut2 hown3 hHeld hinW hBW hbW hin3 hcell2 hc2 he3
                go_wp2
                go_roundw
                case rel => exact ⟨k + 1, a2, insKI O (r, aw, cw), c2, by go_num, HLT.out, rfl, HZ.out.1, HZ.out.2.1, by rw [insKI_len]; exact Nat.succ_le_succ HOL.out, by rw [evsOf_insK]; exact HS.out, HZ.out.2.2⟩
                case measure => have := HLT.out; simp [intOf] <;> omega
        · rw [decide_eq_false hde] at hEq
          have HS : Hid (evsOf O = ((evsOf L).take (k + 1)).foldl (rwStep (rwF L)) []) := by unfold Hid; rw [HT.out, List.foldl_append, ← HOV.out]; show _ = rwStep (rwF L) (evsOf O) e; unfold rwStep; rw [HR.out, if_neg hde]
          clear hde
          go_upto_region 7 with fail
          refine wp_region_after (by kernel_rfl) (by kernel_rfl) (fun WA hWA => ?_)
          have hbA : Below X.heap.size X WA := by rw [hWA.out]; go_grown
          have pd0 : ∀ i : After WA, i.w.cell? ⟨Q, 0, none⟩ = some (.int .i64 r.dot.a.dev) := fun i => i.cell (kept hbA d0)
          have pd1 : ∀ i : After WA, i.w.cell? ⟨Q, 1, none⟩ = some (.int .i64 r.dot.a.inc) := fun i => i.cell (kept hbA d1)
          have pd2 : ∀ i : After WA, i.w.cell? ⟨Q, 2, none⟩ = some (.int .i64 r.dot.seq) := fun i => i.cell (kept hbA d2)
          have pe0 : ∀ i : After WA, i.w.cell? ⟨A, off + k * 19, none⟩ = some (.int .i64 e.dot.a.dev) := fun i => i.cell (kept hbA e0)
          have pe1 : ∀ i : After WA, i.w.cell? ⟨A, off + k * 19 + 1, none⟩ = some (.int .i64 e.dot.a.inc) := fun i => i.cell (kept hbA e1)
          have pe2 : ∀ i : After WA, i.w.cell? ⟨A, off + k * 19 + 2, none⟩ = some (.int .i64 e.dot.seq) := fun i => i.cell (kept hbA e2)
          clear hWA
          go_big_quiet_step (fail)
          go_big_quiet_step (fail)
          go_big_quiet_step (fail)
          go_big_quiet_step (fail)
          go_big_quiet_step (fail)
          go_big_quiet_step (fail)
          go_big_quiet_step (fail)
          go_big_quiet_step (fail)
          refine wpQuiet_nil ?_
          rintro _ ⟨i, rfl⟩
          have hiA := i.h
          generalize i.w = wp at hiA ⊢
          have hbY : Below X.heap.size X wp := below2 hbA hiA
          clear hbA hiA pd0 pd1 pd2 pe0 pe1 pe2
          have HZ := Lib.hid (And.intro (hEOX.kept hbY) (hbX.trans (hbY.mono hbX.size)))
          clear hbY hE hdX hEOX hbX d0 d1 d2 d7 d8 d9 e0 e1 e2 hEq hm
          go_wp2
          go_roundw
          case rel => exact ⟨k + 1, aO, O, cO, by go_num, HLT.out, rfl, HZ.out.1, HOC.out, Nat.le_succ_of_le HOL.out, HS.out, HZ.out.2⟩
          case measure => have := HLT.out; simp [intOf] <;> omega
    · obtain rfl : k = L.length := by omega
      have hE : evsOf O = (evsOf L).foldl (rwStep (rwF L)) [] := by
        have h9 := HOV.out
        rwa [List.take_of_length_le (by rw [evsOf_length]; exact Nat.le_refl _)] at h9
      have HE := Lib.hid hE
      clear hE
      go_wp2
      go_ret
      exact ⟨aO, O, cO, rfl, hEO, HE.out, hbW0.trans (hbr.mono hbW0.size)⟩
end Go.Proofs.YtcijajjngmmbeaaGreat
