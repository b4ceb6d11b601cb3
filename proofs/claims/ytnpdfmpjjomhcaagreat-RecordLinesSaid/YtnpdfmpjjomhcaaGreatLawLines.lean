/- The law RecordLines, walked. Conditions: none. -/
import Derived.Test.YtnpdfmpjjomhcaaGreatRecP
set_option linter.unusedSimpArgs false
set_option linter.unusedVariables false
set_option linter.unnecessarySimpa false
namespace Go.Proofs.YtnpdfmpjjomhcaaGreat
open Go.RowKit

theorem light_tiny2 {e : Ev} (h : light e = true) : EvTiny e := by
  unfold light at h
  simp only [Bool.and_eq_true, decide_eq_true_eq] at h
  obtain ⟨h1, h2, h3, h4, h5⟩ := h
  exact ⟨by omega, by omega, by omega, by omega⟩
theorem rec_held {W' : World} {X : Nat} {x : Rec} {ax : Option Addr} {cx : Nat} (h : W'.rangeAt X 0 (recCells x ax cx)) : W'.cell? ⟨X, 0, none⟩ = some (.int .i64 x.kind) ∧ W'.cell? ⟨X, 1, none⟩ = some (.int .i64 x.inc) ∧ W'.cell? ⟨X, 2, none⟩ = some (.int .i64 x.e.dot.a.dev) ∧ W'.cell? ⟨X, 3, none⟩ = some (.int .i64 x.e.dot.a.inc) ∧ W'.cell? ⟨X, 4, none⟩ = some (.int .i64 x.e.dot.seq) ∧ W'.cell? ⟨X, 5, none⟩ = some (.int .i64 x.e.stamp.wall) ∧ W'.cell? ⟨X, 6, none⟩ = some (.int .i64 x.e.stamp.count) ∧ W'.cell? ⟨X, 7, none⟩ = some (.int .i64 x.e.stamp.dev) ∧ W'.cell? ⟨X, 8, none⟩ = some (.int .i64 x.e.kind) ∧ W'.cell? ⟨X, 9, none⟩ = some (.string x.e.key.name) ∧ W'.cell? ⟨X, 10, none⟩ = some (.string x.e.key.domain) ∧ W'.cell? ⟨X, 11, none⟩ = some (.string x.e.key.path) ∧ W'.cell? ⟨X, 12, none⟩ = some (.string x.e.ck.value) ∧ W'.cell? ⟨X, 13, none⟩ = some (.bool x.e.ck.hostOnly) ∧ W'.cell? ⟨X, 14, none⟩ = some (.bool x.e.ck.secure) ∧ W'.cell? ⟨X, 15, none⟩ = some (.bool x.e.ck.httpOnly) ∧ W'.cell? ⟨X, 16, none⟩ = some (.bool x.e.ck.persistent) ∧ W'.cell? ⟨X, 17, none⟩ = some (.int .i64 x.e.ck.expiry) ∧ W'.cell? ⟨X, 18, none⟩ = some (.int .i64 x.e.ck.creation) ∧ W'.cell? ⟨X, 19, none⟩ = some (.int .i64 x.e.ck.access) ∧ W'.cell? ⟨X, 20, none⟩ = some (.slice ax x.e.over.length cx) := by
  have g : ∀ j v, (recCells x ax cx)[j]? = some v → W'.cell? ⟨X, j, none⟩ = some v := fun j v hv => by have := h j v hv; rwa [Nat.zero_add] at this
  exact ⟨g 0 _ rfl, g 1 _ rfl, g 2 _ rfl, g 3 _ rfl, g 4 _ rfl, g 5 _ rfl, g 6 _ rfl, g 7 _ rfl, g 8 _ rfl, g 9 _ rfl, g 10 _ rfl, g 11 _ rfl, g 12 _ rfl, g 13 _ rfl, g 14 _ rfl, g 15 _ rfl, g 16 _ rfl, g 17 _ rfl, g 18 _ rfl, g 19 _ rfl, g 20 _ rfl⟩
set_option maxRecDepth 100000 in
set_option maxHeartbeats 4000000 in
theorem lawLines_heavy (l : Bytes) (al : Option Addr) (cl : Nat) (x y : Rec) (ax ay : Option Addr) (cx cy : Nat) (w : World) (hl : l.length ≤ maxLen) (hx : EvIn w ax cx x.e) (hy : EvIn w ay cy y.e)
    (hno : 500 < l.length ∨ light x.e = false ∨ light y.e = false) :
    Calls Tryz.prog 6 #[.slice al l.length cl, recVal x ax cx, recVal y ay cy] w fun v w' => v = .returned (.bool true) ∧ Below w.heap.size w w' := by
  unfold maxLen at hl
  have HA := Lib.hid awake31_any
  have HLx0 := fun (W : World) => Light_any x.e ax cx W hx.over hx.name hx.domain hx.path hx.value
  have HLy0 := fun (W : World) => Light_any y.e ay cy W hy.over hy.name hy.domain hy.path hy.value
  by_cases h5 : 500 < l.length
  · have HLx : Hid True := trivial
    have HLy : Hid True := trivial
    have hd := decide_eq_true h5
    have hdi : decide ((500 : Int) < (l.length : Int)) = true := decide_eq_true (by omega)
    clear HLx0 HLy0 hno h5 hx hy
    go_enter Tryz.func6, Tryz.ntmps6
    go_upto_region 1 with fail
    refine wp_name (fun W hW => ?_)
    have hbt : Below w.heap.size w W := by rw [hW.out]; go_grown
    have hz : w.heap.size + 1 < W.heap.size := by rw [hW.out]; simp
    have hRS := recCells_box2 x y ax ay cx cy w 66 66
    have hR : W.rangeAt w.heap.size 0 (recCells x ax cx) := by rw [hW.out]; exact hRS.1
    have hS : W.rangeAt (w.heap.size + 1) 0 (recCells y ay cy) := by rw [hW.out]; exact hRS.2
    have hE1 := range_ev hR
    have hE2 := range_ev hS
    clear hW hRS
    go_wp2_with (first
      | ((with_reducible refine wpList_load_evo _ w.heap.size 2 x.e ax cx hE1 ?_ rfl ?_); exact rfl)
      | ((with_reducible refine wpList_load_evo _ (w.heap.size + 1) 2 y.e ay cy hE2 ?_ rfl ?_); exact rfl)
      | (go_at_call 10; (with_reducible refine (HLx.out _).mono ?_); rintro v w1 ⟨rfl, hb⟩; replace hbt := below2 hbt hb; replace hE1 := rangeAt_kept hE1 hb; replace hE2 := rangeAt_kept hE2 hb)
      | (go_at_call 10; (with_reducible refine (HLy.out _).mono ?_); rintro v w1 ⟨rfl, hb⟩; replace hbt := below2 hbt hb; replace hE1 := rangeAt_kept hE1 hb; replace hE2 := rangeAt_kept hE2 hb)
      | (go_at_call 21; (with_reducible refine (HA.out _).mono ?_); rintro v w7 ⟨rfl, hb7⟩; replace hbt := below2 hbt hb7))
    go_ret
    exact ⟨rfl, hbt⟩
  · have hd := decide_eq_false h5
    have hdi : decide ((500 : Int) < (l.length : Int)) = false := decide_eq_false (by omega)
    cases h1 : light x.e with
    | false =>
      rw [h1] at HLx0
      have HLx := Lib.hid HLx0
      have HLy : Hid True := trivial
      clear HLx0 HLy0 hno h1 h5 hx hy
      go_enter Tryz.func6, Tryz.ntmps6
      go_upto_region 1 with fail
      refine wp_name (fun W hW => ?_)
      have hbt : Below w.heap.size w W := by rw [hW.out]; go_grown
      have hz : w.heap.size + 1 < W.heap.size := by rw [hW.out]; simp
      have hRS := recCells_box2 x y ax ay cx cy w 66 66
      have hR : W.rangeAt w.heap.size 0 (recCells x ax cx) := by rw [hW.out]; exact hRS.1
      have hS : W.rangeAt (w.heap.size + 1) 0 (recCells y ay cy) := by rw [hW.out]; exact hRS.2
      have hE1 := range_ev hR
      have hE2 := range_ev hS
      clear hW hRS
      go_wp2_with (first
        | ((with_reducible refine wpList_load_evo _ w.heap.size 2 x.e ax cx hE1 ?_ rfl ?_); exact rfl)
        | ((with_reducible refine wpList_load_evo _ (w.heap.size + 1) 2 y.e ay cy hE2 ?_ rfl ?_); exact rfl)
        | (go_at_call 10; (with_reducible refine (HLx.out _).mono ?_); rintro v w1 ⟨rfl, hb⟩; replace hbt := below2 hbt hb; replace hE1 := rangeAt_kept hE1 hb; replace hE2 := rangeAt_kept hE2 hb)
        | (go_at_call 10; (with_reducible refine (HLy.out _).mono ?_); rintro v w1 ⟨rfl, hb⟩; replace hbt := below2 hbt hb; replace hE1 := rangeAt_kept hE1 hb; replace hE2 := rangeAt_kept hE2 hb)
        | (go_at_call 21; (with_reducible refine (HA.out _).mono ?_); rintro v w7 ⟨rfl, hb7⟩; replace hbt := below2 hbt hb7))
      go_ret
      exact ⟨rfl, hbt⟩
    | true =>
      have h2 : light y.e = false := by rcases hno with h | h | h; exact absurd h h5; rw [h1] at h; cases h; exact h
      rw [h1] at HLx0
      rw [h2] at HLy0
      have HLx := Lib.hid HLx0
      have HLy := Lib.hid HLy0
      clear HLx0 HLy0 hno h1 h2 h5 hx hy
      go_enter Tryz.func6, Tryz.ntmps6
      go_upto_region 1 with fail
      refine wp_name (fun W hW => ?_)
      have hbt : Below w.heap.size w W := by rw [hW.out]; go_grown
      have hz : w.heap.size + 1 < W.heap.size := by rw [hW.out]; simp
      have hRS := recCells_box2 x y ax ay cx cy w 66 66
      have hR : W.rangeAt w.heap.size 0 (recCells x ax cx) := by rw [hW.out]; exact hRS.1
      have hS : W.rangeAt (w.heap.size + 1) 0 (recCells y ay cy) := by rw [hW.out]; exact hRS.2
      have hE1 := range_ev hR
      have hE2 := range_ev hS
      clear hW hRS
      go_wp2_with (first
        | ((with_reducible refine wpList_load_evo _ w.heap.size 2 x.e ax cx hE1 ?_ rfl ?_); exact rfl)
        | ((with_reducible refine wpList_load_evo _ (w.heap.size + 1) 2 y.e ay cy hE2 ?_ rfl ?_); exact rfl)
        | (go_at_call 10; (with_reducible refine (HLx.out _).mono ?_); rintro v w1 ⟨rfl, hb⟩; replace hbt := below2 hbt hb; replace hE1 := rangeAt_kept hE1 hb; replace hE2 := rangeAt_kept hE2 hb)
        | (go_at_call 10; (with_reducible refine (HLy.out _).mono ?_); rintro v w1 ⟨rfl, hb⟩; replace hbt := below2 hbt hb; replace hE1 := rangeAt_kept hE1 hb; replace hE2 := rangeAt_kept hE2 hb)
        | (go_at_call 21; (with_reducible refine (HA.out _).mono ?_); rintro v w7 ⟨rfl, hb7⟩; replace hbt := below2 hbt hb7))
      go_ret
      exact ⟨rfl, hbt⟩
set_option maxRecDepth 100000 in
set_option maxHeartbeats 4000000 in
theorem lawLines_no (l : Bytes) (al : Option Addr) (cl : Nat) (x y : Rec) (ax ay : Option Addr) (cx cy : Nat) (w : World) (hl : l.length ≤ 500) (hbl : BytesIn w al l) (hx : EvIn w ax cx x.e) (hy : EvIn w ay cy y.e)
    (h1 : light x.e = true) (h2 : light y.e = true) (hok : recOk x = false) :
    Calls Tryz.prog 6 #[.slice al l.length cl, recVal x ax cx, recVal y ay cy] w fun v w' => v = .returned (.bool true) ∧ Below w.heap.size w w' := by
  have HA := Lib.hid awake31_any
  have HLx0 := fun (W : World) => Light_any x.e ax cx W hx.over hx.name hx.domain hx.path hx.value
  have HLy0 := fun (W : World) => Light_any y.e ay cy W hy.over hy.name hy.domain hy.path hy.value
  rw [h1] at HLx0
  rw [h2] at HLy0
  have s1 := light_small h1
  have s2 := light_small h2
  have HLx := Lib.hid HLx0
  have HLy := Lib.hid HLy0
  have HL := Lib.hid (fun (W : World) (v : Value) (h : DotsIn W ax x.e.over) => RecLine_no x v ax cx W s1 h hok)
  have HRR0 := fun (W : World) (h : DotsIn W ax x.e.over) => rRecRight_any x ax cx W s1 h
  have HRP0 := fun (W : World) (h : DotsIn W ax x.e.over) => RecRight_any x ax cx W s1 h
  rw [hok] at HRR0 HRP0
  have HRR := Lib.hid HRR0
  have HRP := Lib.hid HRP0
  have HSP0 := fun (W : World) (h : DotsIn W ax x.e.over) (h2 : DotsIn W ay y.e.over) => RecSame_any x y ax ay cx cy W s1.over s2.over h h2
  have HSR0 := fun (W : World) (h : DotsIn W ax x.e.over) (h2 : DotsIn W ay y.e.over) => rRecSame_any x y ax ay cx cy W s1.over s2.over h h2
  generalize decide (x = y) = q at HSP0 HSR0
  have HSP := Lib.hid HSP0
  have HSR := Lib.hid HSR0
  have hd := decide_eq_false (show ¬ 500 < l.length by omega)
  have hdi : decide ((500 : Int) < (l.length : Int)) = false := decide_eq_false (by omega)
  clear HLx0 HLy0 HRR0 HRP0 HSP0 HSR0 h1 h2 s1 s2 hok
  go_enter Tryz.func6, Tryz.ntmps6
  go_upto_region 1 with fail
  refine wp_name (fun W hW => ?_)
  have hbt : Below w.heap.size w W := by rw [hW.out]; go_grown
  have hz : w.heap.size + 1 < W.heap.size := by rw [hW.out]; simp
  have hRS := recCells_box2 x y ax ay cx cy w 66 66
  have hR : W.rangeAt w.heap.size 0 (recCells x ax cx) := by rw [hW.out]; exact hRS.1
  have hS : W.rangeAt (w.heap.size + 1) 0 (recCells y ay cy) := by rw [hW.out]; exact hRS.2
  have hE1 := range_ev hR
  have hE2 := range_ev hS
  clear hW hRS
  have hdx := hx.dots.kept hbt
  have hdy := hy.dots.kept hbt
  have hin := hbl.kept hbt
  go_upto_region 3 with (first
    | ((with_reducible refine wpList_load_evo _ w.heap.size 2 x.e ax cx hE1 ?_ rfl ?_); exact rfl)
    | ((with_reducible refine wpList_load_evo _ (w.heap.size + 1) 2 y.e ay cy hE2 ?_ rfl ?_); exact rfl)
    | (go_at_call 10; (with_reducible refine (HLx.out _).mono ?_); rintro v w1 ⟨rfl, hb⟩; replace hbt := below2 hbt hb; replace hE1 := rangeAt_kept hE1 hb; replace hE2 := rangeAt_kept hE2 hb; replace hR := rangeAt_kept hR hb; replace hS := rangeAt_kept hS hb; replace hdx := hdx.kept hb; replace hdy := hdy.kept hb; replace hin := hin.kept hb; replace hz := Nat.lt_of_lt_of_le hz hb.size)
    | (go_at_call 10; (with_reducible refine (HLy.out _).mono ?_); rintro v w1 ⟨rfl, hb⟩; replace hbt := below2 hbt hb; replace hE1 := rangeAt_kept hE1 hb; replace hE2 := rangeAt_kept hE2 hb; replace hR := rangeAt_kept hR hb; replace hS := rangeAt_kept hS hb; replace hdx := hdx.kept hb; replace hdy := hdy.kept hb; replace hin := hin.kept hb; replace hz := Nat.lt_of_lt_of_le hz hb.size))
  clear hE1 hE2 HLx HLy
  go_upto_region 4 with (first
    | ((with_reducible refine wpList_load_to 66 _ w.heap.size 0 (recCells x ax cx) (recVal x ax cx) rfl _ Tryz.underlying66 rfl (by kernel_rfl) hR ?_ rfl ?_); exact rfl)
    | (go_at_call 27; (with_reducible refine (HL.out _ _ hdx).mono ?_); rintro v w2 ⟨rfl, hb⟩; replace hbt := below2 hbt hb; replace hR := rangeAt_kept hR hb; replace hS := rangeAt_kept hS hb; replace hdx := hdx.kept hb; replace hdy := hdy.kept hb; replace hin := hin.kept hb))
  clear HL
  go_upto_region 5 with (first
    | ((with_reducible refine wpList_load_to 66 _ w.heap.size 0 (recCells x ax cx) (recVal x ax cx) rfl _ Tryz.underlying66 rfl (by kernel_rfl) hR ?_ rfl ?_); exact rfl)
    | (go_at_call 28; (with_reducible refine (HRR.out _ hdx).mono ?_); rintro v w3 ⟨rfl, hb⟩; replace hbt := below2 hbt hb; replace hR := rangeAt_kept hR hb; replace hS := rangeAt_kept hS hb; replace hdx := hdx.kept hb; replace hdy := hdy.kept hb; replace hin := hin.kept hb; skip))
  refine wp_region_after (by kernel_rfl) (by kernel_rfl) (fun W2 hW2 => ?_)
  have RX : W2.rangeAt w.heap.size 0 (recCells x ax cx) := by rw [hW2.out]; exact hR
  have RY : W2.rangeAt (w.heap.size + 1) 0 (recCells y ay cy) := by rw [hW2.out]; exact hS
  have DX : ∀ i : After W2, DotsIn i.w ax x.e.over := fun i => (show DotsIn W2 ax x.e.over by rw [hW2.out]; exact hdx).kept i.h
  have DY : ∀ i : After W2, DotsIn i.w ay y.e.over := fun i => (show DotsIn W2 ay y.e.over by rw [hW2.out]; exact hdy).kept i.h
  ((with_reducible refine wpQuiet_load_to 66 _ w.heap.size 0 (recCells x ax cx) (recVal x ax cx) rfl _ Tryz.underlying66 rfl (by kernel_rfl) RX ?_ rfl ?_); exact rfl; go_simp)
  go_big_quiet_step (exact Calls.after (HRP.out _ (DX _)))
  go_big_quiet_step (fail)
  go_big_quiet_step (fail)
  go_big_quiet_step (fail)
  ((with_reducible refine wpQuiet_load_to 66 _ w.heap.size 0 (recCells x ax cx) (recVal x ax cx) rfl _ Tryz.underlying66 rfl (by kernel_rfl) RX ?_ rfl ?_); exact rfl; go_simp)
  ((with_reducible refine wpQuiet_load_to 66 _ (w.heap.size + 1) 0 (recCells y ay cy) (recVal y ay cy) rfl _ Tryz.underlying66 rfl (by kernel_rfl) RY ?_ rfl ?_); exact rfl; go_simp)
  go_big_quiet_step (exact Calls.after (HSP.out _ (DX _) (DY _)))
  ((with_reducible refine wpQuiet_load_to 66 _ w.heap.size 0 (recCells x ax cx) (recVal x ax cx) rfl _ Tryz.underlying66 rfl (by kernel_rfl) RX ?_ rfl ?_); exact rfl; go_simp)
  ((with_reducible refine wpQuiet_load_to 66 _ (w.heap.size + 1) 0 (recCells y ay cy) (recVal y ay cy) rfl _ Tryz.underlying66 rfl (by kernel_rfl) RY ?_ rfl ?_); exact rfl; go_simp)
  go_big_quiet_step (exact Calls.after (HSR.out _ (DX _) (DY _)))
  go_big_quiet_step (fail)
  go_big_quiet_step (fail)
  refine wpQuiet_nil ?_
  first | (intro _ hi; obtain ⟨i, rfl⟩ := hi) | intro i
  have hib := i.h
  clear DX DY RX RY
  generalize i.w = wi at hib ⊢
  rw [hW2.out] at hib
  replace hbt := below2 hbt hib
  replace hR := rangeAt_kept hR hib
  replace hdx := hdx.kept hib
  replace hin := hin.kept hib
  clear hS hdy
  go_wp2_with (go_at_call 21; (with_reducible refine (HA.out _).mono ?_); rintro v w7 ⟨rfl, hb7⟩; replace hbt := below2 hbt hb7)
  go_ret
  exact ⟨rfl, hbt⟩
end Go.Proofs.YtnpdfmpjjomhcaaGreat

/- The law RecordLines, walked, of records that may be. Conditions: none. -/
namespace Go.Proofs.YtnpdfmpjjomhcaaGreat
open Go.RowKit

set_option maxRecDepth 100000 in
set_option maxHeartbeats 4000000 in
theorem lawLines_yes (l : Bytes) (al : Option Addr) (cl : Nat) (x y : Rec) (ax ay : Option Addr) (cx cy : Nat) (w : World) (hl : l.length ≤ 500) (hbl : BytesIn w al l) (hx : EvIn w ax cx x.e) (hy : EvIn w ay cy y.e)
    (h1 : light x.e = true) (h2 : light y.e = true) (hok : recOk x = true) :
    Calls Tryz.prog 6 #[.slice al l.length cl, recVal x ax cx, recVal y ay cy] w fun v w' => v = .returned (.bool true) ∧ Below w.heap.size w w' := by
  have HA := Lib.hid awake31_any
  have HLx0 := fun (W : World) => Light_any x.e ax cx W hx.over hx.name hx.domain hx.path hx.value
  have HLy0 := fun (W : World) => Light_any y.e ay cy W hy.over hy.name hy.domain hy.path hy.value
  rw [h1] at HLx0
  rw [h2] at HLy0
  have s1 := light_small h1
  have s2 := light_small h2
  have HLx := Lib.hid HLx0
  have HLy := Lib.hid HLy0
  have hlen := recLine_len hok
  have HL := Lib.hid (fun (W : World) (hb : BytesIn W al l) (h : DotsIn W ax x.e.over) (ho : ∀ A off, ax = some ⟨A, off, none⟩ → x.e.over ≠ [] → A < W.heap.size) => RecLine_yes x al cl l ax cx W (by omega) hb h ho hok)
  have HRR0 := fun (W : World) (h : DotsIn W ax x.e.over) => rRecRight_any x ax cx W s1 h
  have HRP0 := fun (W : World) (h : DotsIn W ax x.e.over) => RecRight_any x ax cx W s1 h
  rw [hok] at HRR0 HRP0
  have HRR := Lib.hid HRR0
  have HRP := Lib.hid HRP0
  have HSP0 := fun (W : World) (h : DotsIn W ax x.e.over) (h2 : DotsIn W ay y.e.over) => RecSame_any x y ax ay cx cy W s1.over s2.over h h2
  have HSR0 := fun (W : World) (h : DotsIn W ax x.e.over) (h2 : DotsIn W ay y.e.over) => rRecSame_any x y ax ay cx cy W s1.over s2.over h h2
  generalize decide (x = y) = q at HSP0 HSR0
  have HSP := Lib.hid HSP0
  have HSR := Lib.hid HSR0
  have HLn := Lib.hid (fun (W : World) (h : DotsIn W ax x.e.over) => rRecLine_any x ax cx W hok h)
  have hd := decide_eq_false (show ¬ 500 < l.length by omega)
  have hdi : decide ((500 : Int) < (l.length : Int)) = false := decide_eq_false (by omega)
  clear HLx0 HLy0 HRR0 HRP0 HSP0 HSR0 h1 h2 s1 s2 hok
  have hold := hx.old
  go_enter Tryz.func6, Tryz.ntmps6
  go_upto_region 1 with fail
  refine wp_name (fun W hW => ?_)
  have hbt : Below w.heap.size w W := by rw [hW.out]; go_grown
  have hz : w.heap.size + 1 < W.heap.size := by rw [hW.out]; simp
  have hRS := recCells_box2 x y ax ay cx cy w 66 66
  have hR : W.rangeAt w.heap.size 0 (recCells x ax cx) := by rw [hW.out]; exact hRS.1
  have hS : W.rangeAt (w.heap.size + 1) 0 (recCells y ay cy) := by rw [hW.out]; exact hRS.2
  have hE1 := range_ev hR
  have hE2 := range_ev hS
  clear hW hRS
  have hdx := hx.dots.kept hbt
  have hdy := hy.dots.kept hbt
  have hin := hbl.kept hbt
  go_upto_region 3 with (first
    | ((with_reducible refine wpList_load_evo _ w.heap.size 2 x.e ax cx hE1 ?_ rfl ?_); exact rfl)
    | ((with_reducible refine wpList_load_evo _ (w.heap.size + 1) 2 y.e ay cy hE2 ?_ rfl ?_); exact rfl)
    | (go_at_call 10; (with_reducible refine (HLx.out _).mono ?_); rintro v w1 ⟨rfl, hb⟩; replace hbt := below2 hbt hb; replace hE1 := rangeAt_kept hE1 hb; replace hE2 := rangeAt_kept hE2 hb; replace hR := rangeAt_kept hR hb; replace hS := rangeAt_kept hS hb; replace hdx := hdx.kept hb; replace hdy := hdy.kept hb; replace hin := hin.kept hb; replace hz := Nat.lt_of_lt_of_le hz hb.size)
    | (go_at_call 10; (with_reducible refine (HLy.out _).mono ?_); rintro v w1 ⟨rfl, hb⟩; replace hbt := below2 hbt hb; replace hE1 := rangeAt_kept hE1 hb; replace hE2 := rangeAt_kept hE2 hb; replace hR := rangeAt_kept hR hb; replace hS := rangeAt_kept hS hb; replace hdx := hdx.kept hb; replace hdy := hdy.kept hb; replace hin := hin.kept hb; replace hz := Nat.lt_of_lt_of_le hz hb.size))
  clear hE1 hE2 HLx HLy
  obtain ⟨M, hM⟩ : ∃ M, M = recLine x := ⟨_, rfl⟩
  rw [← hM] at HL HLn hlen
  obtain ⟨L, hL⟩ : ∃ L, L = l ++ M := ⟨_, rfl⟩
  have hLn : L.length ≤ 10000 := by rw [hL, List.length_append]; omega
  have HLL := Lib.hid hL
  rw [← hL] at HL
  clear hM hL
  go_upto_region 4 with (first
    | ((with_reducible refine wpList_load_to 66 _ w.heap.size 0 (recCells x ax cx) (recVal x ax cx) rfl _ Tryz.underlying66 rfl (by kernel_rfl) hR ?_ rfl ?_); exact rfl)
    | (go_at_call 27; (with_reducible refine (HL.out _ hin hdx (fun A off g1 g2 => by have := hold A off g1 g2; omega)).mono ?_); rintro v w2 ⟨vl, rfl, hown, hb⟩; obtain ⟨a1, c1, rfl, hin1⟩ := own_bytes hown; replace hbt := below2 hbt hb; replace hR := rangeAt_kept hR hb; replace hS := rangeAt_kept hS hb; replace hdx := hdx.kept hb; replace hdy := hdy.kept hb; replace hin := hin.kept hb; clear hown))
  clear HL
  go_upto_region 5 with (first
    | ((with_reducible refine wpList_load_to 66 _ w.heap.size 0 (recCells x ax cx) (recVal x ax cx) rfl _ Tryz.underlying66 rfl (by kernel_rfl) hR ?_ rfl ?_); exact rfl)
    | (go_at_call 28; (with_reducible refine (HRR.out _ hdx).mono ?_); rintro v w3 ⟨rfl, hb⟩; replace hbt := below2 hbt hb; replace hR := rangeAt_kept hR hb; replace hS := rangeAt_kept hS hb; replace hdx := hdx.kept hb; replace hdy := hdy.kept hb; replace hin := hin.kept hb; replace hin1 := hin1.kept hb))
  refine wp_region_after (by kernel_rfl) (by kernel_rfl) (fun W2 hW2 => ?_)
  have RX : W2.rangeAt w.heap.size 0 (recCells x ax cx) := by rw [hW2.out]; exact hR
  have RY : W2.rangeAt (w.heap.size + 1) 0 (recCells y ay cy) := by rw [hW2.out]; exact hS
  have DX : ∀ i : After W2, DotsIn i.w ax x.e.over := fun i => (show DotsIn W2 ax x.e.over by rw [hW2.out]; exact hdx).kept i.h
  have DY : ∀ i : After W2, DotsIn i.w ay y.e.over := fun i => (show DotsIn W2 ay y.e.over by rw [hW2.out]; exact hdy).kept i.h
  ((with_reducible refine wpQuiet_load_to 66 _ w.heap.size 0 (recCells x ax cx) (recVal x ax cx) rfl _ Tryz.underlying66 rfl (by kernel_rfl) RX ?_ rfl ?_); exact rfl; go_simp)
  go_big_quiet_step (exact Calls.after (HRP.out _ (DX _)))
  go_big_quiet_step (fail)
  go_big_quiet_step (fail)
  go_big_quiet_step (fail)
  ((with_reducible refine wpQuiet_load_to 66 _ w.heap.size 0 (recCells x ax cx) (recVal x ax cx) rfl _ Tryz.underlying66 rfl (by kernel_rfl) RX ?_ rfl ?_); exact rfl; go_simp)
  ((with_reducible refine wpQuiet_load_to 66 _ (w.heap.size + 1) 0 (recCells y ay cy) (recVal y ay cy) rfl _ Tryz.underlying66 rfl (by kernel_rfl) RY ?_ rfl ?_); exact rfl; go_simp)
  go_big_quiet_step (exact Calls.after (HSP.out _ (DX _) (DY _)))
  ((with_reducible refine wpQuiet_load_to 66 _ w.heap.size 0 (recCells x ax cx) (recVal x ax cx) rfl _ Tryz.underlying66 rfl (by kernel_rfl) RX ?_ rfl ?_); exact rfl; go_simp)
  ((with_reducible refine wpQuiet_load_to 66 _ (w.heap.size + 1) 0 (recCells y ay cy) (recVal y ay cy) rfl _ Tryz.underlying66 rfl (by kernel_rfl) RY ?_ rfl ?_); exact rfl; go_simp)
  go_big_quiet_step (exact Calls.after (HSR.out _ (DX _) (DY _)))
  go_big_quiet_step (fail)
  go_big_quiet_step (fail)
  refine wpQuiet_nil ?_
  first | (intro _ hi; obtain ⟨i, rfl⟩ := hi) | intro i
  have hib := i.h
  clear DX DY RX RY
  generalize i.w = wi at hib ⊢
  rw [hW2.out] at hib
  replace hbt := below2 hbt hib
  replace hR := rangeAt_kept hR hib
  replace hdx := hdx.kept hib
  replace hin := hin.kept hib
  clear hS hdy
  replace hin1 := hin1.kept hib
  go_wp2_with fail
  have hB : Below wi.heap.size wi wi.drew := (Below.refl _ _).drew
  have HSB0 := fun (W : World) (p q : Option Addr) (cp cq : Nat) (h1 : BytesIn W p L) (h2 : BytesIn W q L) => rSameBytes_any p q cp cq L L W (by omega) (by omega) h1 h2
  simp only [decide_true] at HSB0
  have HSB := Lib.hid HSB0
  have hown0 : (wi.drew.alloc (Obj.cells #[] 5)).ownsRow wi.heap.size 5 1 (.slice (some ⟨wi.drew.heap.size, 0, none⟩) 0 0) ([] : Bytes).length (byteVals []) := World.ownsRow_made _ _ _ hB.size (by decide) rfl
  have HLn2 := Lib.hid (show ∀ (W : World), DotsIn W ax x.e.over → Calls Tryz.prog 32 #[.agg (recCells x ax cx).toArray] W (RetBytes M W) from HLn.out)
  clear HSB0
  refine wp_region_noPanic ?_
  refine wp_region_held_drew (S := fun W' => W'.rangeAt w.heap.size 0 (recCells x ax cx)) (by kernel_rfl) (rangeAt_kept hR hB) (fun hHeld => ?_)
  refine wpAnyH_take (i := 0) (oi := ⟨some 59, _, _, _, _, _⟩) (v := ?_) rfl (by kernel_rfl) (by kernel_rfl) (by kernel_rfl) (fun _ _ _ h => h) (Or.inl ⟨by rfl, ?_⟩) (by assumption) ?_
  case refine_2 => (intro w hSw; go_simp; try with_reducible rfl)
  try simp only [Act.put, List.setIfInBounds_toArray, List.set_cons_zero, List.set_cons_succ]
  refine wpAnyH_take (i := 1) (oi := ⟨some 60, _, _, _, _, _⟩) (v := ?_) rfl (by kernel_rfl) (by kernel_rfl) (by kernel_rfl) (fun _ _ _ h => h) (Or.inl ⟨by rfl, ?_⟩) (by assumption) ?_
  case refine_2 => (intro w hSw; go_simp; try with_reducible rfl)
  try simp only [Act.put, List.setIfInBounds_toArray, List.set_cons_zero, List.set_cons_succ]
  refine wpAnyH_take (i := 2) (oi := ⟨some 61, _, _, _, _, _⟩) (v := ?_) rfl (by kernel_rfl) (by kernel_rfl) (by kernel_rfl) (fun _ _ _ h => h) (Or.inl ⟨by rfl, ?_⟩) (by assumption) ?_
  case refine_2 => (intro w hSw; go_simp; try with_reducible rfl)
  try simp only [Act.put, List.setIfInBounds_toArray, List.set_cons_zero, List.set_cons_succ]
  refine wpAnyH_take (i := 3) (oi := ⟨some 62, _, _, _, _, _⟩) (v := ?_) rfl (by kernel_rfl) (by kernel_rfl) (by kernel_rfl) (fun _ _ _ h => h) (Or.inl ⟨by rfl, ?_⟩) (by assumption) ?_
  case refine_2 => (intro w hSw; go_simp; try with_reducible rfl)
  try simp only [Act.put, List.setIfInBounds_toArray, List.set_cons_zero, List.set_cons_succ]
  refine wpAnyH_take (i := 5) (oi := ⟨some 64, _, _, _, _, _⟩) (v := ?_) rfl (by kernel_rfl) (by kernel_rfl) (by kernel_rfl) (fun _ _ _ h => h) (Or.inl ⟨by rfl, ?_⟩) (by assumption) ?_
  case refine_2 => (intro w hSw; go_simp; try with_reducible rfl)
  try simp only [Act.put, List.setIfInBounds_toArray, List.set_cons_zero, List.set_cons_succ]
  refine wpAnyH_take (i := 7) (oi := ⟨some 66, _, _, _, _, _⟩) rfl (by kernel_rfl) (by kernel_rfl) (by kernel_rfl) (fun _ _ _ h => h) (yieldsIf_load_mid (by rfl) 66 _ rfl w.heap.size 0 rfl (recCells x ax cx) _ (fun _ h => h) Tryz.underlying66 rfl (by kernel_rfl)) (by assumption) ?_
  try simp only [Act.put, List.setIfInBounds_toArray, List.set_cons_zero, List.set_cons_succ]
  refine wpAnyH_ready (rs := [4]) (by kernel_rfl) (by simp) ?_
  refine AllReadyH.cons rfl (fun K hK => ?_) AllReadyH.nil
  go_simp
  refine hK.out _ _ ?_ (fun hHeld => ?_)
  · exact rangeAt_kept hR (hB.alloc hB.size _)
  clear hK K
  try simp only [Act.put, List.setIfInBounds_toArray, List.set_cons_zero, List.set_cons_succ]
  refine wpAnyH_ready (rs := [6]) (by kernel_rfl) (by simp) ?_
  refine AllReadyH.cons rfl (fun K hK => ?_) AllReadyH.nil
  (refine step_append_bytes rfl (.tmp 63) (.tmp 64) rfl rfl wi.heap.size (.slice (some ⟨wi.drew.heap.size, 0, none⟩) 0 0) [] rfl hown0 al l cl rfl (hin.kept (hB.alloc hB.size _)) (by rw [List.length_nil]; omega) (Nat.le_trans hB.size (by simp)) ?_; intro v1 w1 hown1 hg1; replace hB := (hB.alloc hB.size _).grown hg1 (Nat.le_trans hB.size (by simp)) (fun k hk => by simp [Value.ownBlock] at hk; subst hk; exact hB.size); clear hg1; rw [List.nil_append] at hown1)
  refine hK.out _ _ ?_ (fun hHeld => ?_)
  · exact rangeAt_kept hR hB
  clear hK K
  try simp only [Act.put, List.setIfInBounds_toArray, List.set_cons_zero, List.set_cons_succ]
  refine wpAnyH_ready (rs := [8]) (by kernel_rfl) (by simp) ?_
  refine AllReadyH.cons rfl (fun K hK => ?_) AllReadyH.nil
  (go_simp; go_at_call 32; (with_reducible refine (HLn2.out _ (hdx.kept hB)).mono ?_); rintro v w2 ⟨v2, rfl, hown2, hb2⟩; obtain ⟨a2, c2, rfl, hin2⟩ := own_bytes hown2; replace hB := below2 hB hb2; replace hown1 := own_below hown1 hb2; clear hown2 hb2; go_wp2_with fail)
  refine hK.out _ _ ?_ (fun hHeld => ?_)
  · exact rangeAt_kept hR hB
  clear hK K
  try simp only [Act.put, List.setIfInBounds_toArray, List.set_cons_zero, List.set_cons_succ]
  refine wpAnyH_ready (rs := [9]) (by kernel_rfl) (by simp) ?_
  refine AllReadyH.cons rfl (fun K hK => ?_) AllReadyH.nil
  (refine step_append_bytes rfl (.tmp 65) (.tmp 67) rfl rfl wi.heap.size v1 l rfl hown1 a2 M c2 rfl hin2 (by omega) hB.size ?_; intro v3 w3 hown3 hg3; replace hB := hB.grown hg3 hB.size (fun k hk => (hown1.lt k hk).1); rw [← HLL.out] at hown3; obtain ⟨a3, c3, rfl, hin3⟩ := own_bytes hown3; clear hown1 hg3 hown3)
  refine hK.out _ _ ?_ (fun hHeld => ?_)
  · exact rangeAt_kept hR hB
  clear hK K
  try simp only [Act.put, List.setIfInBounds_toArray, List.set_cons_zero, List.set_cons_succ]
  refine wpAnyH_ready (rs := [10]) (by kernel_rfl) (by simp) ?_
  refine AllReadyH.cons rfl (fun K hK => ?_) AllReadyH.nil
  (go_simp; go_at_call 17; (with_reducible refine (HSB.out _ _ _ _ _ (hin1.kept hB) hin3).mono ?_); rintro v w5 ⟨rfl, hb5⟩; replace hB := below2 hB hb5; go_wp2_with fail)
  refine hK.out _ _ ?_ (fun hHeld => ?_)
  · exact rangeAt_kept hR hB
  clear hK K
  try simp only [Act.put, List.setIfInBounds_toArray, List.set_cons_zero, List.set_cons_succ]
  refine wpAnyH_take (i := 11) (oi := ⟨some 70, _, _, _, _, _⟩) (v := ?_) rfl (by kernel_rfl) (by kernel_rfl) (by kernel_rfl) (fun _ _ _ h => h) (Or.inl ⟨by rfl, ?_⟩) (by assumption) ?_
  case refine_2 => (intro w hSw; go_simp; try with_reducible rfl)
  try simp only [Act.put, List.setIfInBounds_toArray, List.set_cons_zero, List.set_cons_succ]
  refine wpAnyH_take (i := 12) (oi := ⟨some 71, _, _, _, _, _⟩) (v := ?_) rfl (by kernel_rfl) (by kernel_rfl) (by kernel_rfl) (fun _ _ _ h => h) (Or.inl ⟨by rfl, ?_⟩) (by assumption) ?_
  case refine_2 => (intro w hSw; go_simp; try with_reducible rfl)
  try simp only [Act.put, List.setIfInBounds_toArray, List.set_cons_zero, List.set_cons_succ]
  refine wpAnyH_ready (rs := [13]) (by kernel_rfl) (by simp) ?_
  refine AllReadyH.cons rfl (fun K hK => ?_) AllReadyH.nil
  (go_simp; go_at_call 21; (with_reducible refine (HA.out _).mono ?_); rintro v w6 ⟨rfl, hb6⟩; replace hB := below2 hB hb6; go_wp2_with fail)
  refine hK.out _ _ ?_ (fun hHeld => ?_)
  · exact rangeAt_kept hR hB
  clear hK K
  try simp only [Act.put, List.setIfInBounds_toArray, List.set_cons_zero, List.set_cons_succ]
  refine wpAnyH_take (i := 14) (oi := ⟨some 73, _, _, _, _, _⟩) (v := ?_) rfl (by kernel_rfl) (by kernel_rfl) (by kernel_rfl) (fun _ _ _ h => h) (Or.inl ⟨by rfl, ?_⟩) (by assumption) ?_
  case refine_2 => (intro w hSw; go_simp; try with_reducible rfl)
  try simp only [Act.put, List.setIfInBounds_toArray, List.set_cons_zero, List.set_cons_succ]
  refine wpAnyH_take (i := 15) (oi := ⟨some 6, _, _, _, _, _⟩) (v := ?_) rfl (by kernel_rfl) (by kernel_rfl) (by kernel_rfl) (fun _ _ _ h => h) (Or.inl ⟨by rfl, ?_⟩) (by assumption) ?_
  case refine_2 => (intro w hSw; go_simp; try with_reducible rfl)
  try simp only [Act.put, List.setIfInBounds_toArray, List.set_cons_zero, List.set_cons_succ]
  refine wpAnyH_done (by kernel_rfl) ?_ _
  refine NoPanic.normal ?_
  go_wp2
  go_ret
  exact ⟨rfl, below2 hbt hB⟩
theorem lawLines_any (l : Bytes) (al : Option Addr) (cl : Nat) (x y : Rec) (ax ay : Option Addr) (cx cy : Nat) (w : World) (hl : l.length ≤ maxLen) (hbl : BytesIn w al l) (hx : EvIn w ax cx x.e) (hy : EvIn w ay cy y.e) :
    Calls Tryz.prog 6 #[.slice al l.length cl, recVal x ax cx, recVal y ay cy] w fun v w' => v = .returned (.bool true) ∧ Below w.heap.size w w' := by
  by_cases h5 : 500 < l.length
  · exact lawLines_heavy l al cl x y ax ay cx cy w hl hx hy (Or.inl h5)
  · cases h1 : light x.e with
    | false => exact lawLines_heavy l al cl x y ax ay cx cy w hl hx hy (Or.inr (Or.inl h1))
    | true =>
      cases h2 : light y.e with
      | false => exact lawLines_heavy l al cl x y ax ay cx cy w hl hx hy (Or.inr (Or.inr h2))
      | true =>
        cases hok : recOk x with
        | true => exact lawLines_yes l al cl x y ax ay cx cy w (by omega) hbl hx hy h1 h2 hok
        | false => exact lawLines_no l al cl x y ax ay cx cy w (by omega) hbl hx hy h1 h2 hok
end Go.Proofs.YtnpdfmpjjomhcaaGreat
