/- The reference's disk: Rename, Arm. Conditions: as in the text. -/
import Derived.Test.YtbkelbdeodbhcaaDRefD
import Derived.Test.YtbkelbdeodbhcaaDiskN
set_option linter.unusedSimpArgs false
set_option linter.unusedVariables false
set_option linter.unnecessarySimpa false
namespace Go.Proofs.Ytbkelbdeodbhcaa
open Go.RowKit

def DS.rarm (S : DS) (n : Int) : DS × Int := if armOk n then ({ S with arm := n.toNat }, 0) else (S, 4)
theorem rename_err {l : List DF} {arm : Nat} {down : Bool} {s t : ByteArray} {f : DF} {c : Int} (hE : getE l s = (f, c)) (hc : c ≠ 0) (ht : nameOk t = true) : DS.rename ⟨l, arm, down⟩ s t = (⟨l, arm, down⟩, c) := by
  unfold getE at hE
  unfold DS.rename
  rw [if_pos ht]
  by_cases hok : nameOk s = true
  · rw [if_pos hok] at hE ⊢
    cases hg : getF l s with
    | none => rw [hg] at hE; simp only [Prod.mk.injEq] at hE ⊢; exact ⟨trivial, hE.2⟩
    | some f' => rw [hg] at hE; simp only [Prod.mk.injEq] at hE; exact absurd hE.2.symm hc
  · rw [if_neg hok] at hE ⊢
    simp only [Prod.mk.injEq] at hE ⊢
    exact ⟨trivial, hE.2⟩

set_option maxRecDepth 100000 in
set_option maxHeartbeats 1000000 in
theorem rRename_any30 (a : Option Addr) (cap arm : Nat) (down : Bool) (l : List RF) (s t : ByteArray) (w : World) (hl : l.length ≤ 16777216) (hlc : l.length ≤ cap) (ha : arm ≤ 1048576) (hs : s.size ≤ maxLen) (ht : t.size ≤ maxLen) (h : RFsIn w a l) :
    Calls Try.prog 30 #[rdkVal a l.length cap arm down, .string s, .string t] w (RetRD (DS.rename ⟨rfsOf l, arm, down⟩ s t).1 (DS.rename ⟨rfsOf l, arm, down⟩ s t).2 w) := by
  have HT := Lib.hid (fun W => rRightName_any t W ht)
  by_cases hot : nameOk t = true
  case neg =>
    have hr : DS.rename ⟨rfsOf l, arm, down⟩ s t = (⟨rfsOf l, arm, down⟩, 1) := by unfold DS.rename; rw [if_neg hot]
    rw [hr]
    rw [Bool.eq_false_iff.2 hot] at HT
    clear hot hr
    go_enter Try.func30, Try.ntmps30
    go_upto_region 1 with fail
    refine wp_name (fun W hW => ?_)
    have hb0 : Below w.heap.size w W := by rw [hW.out]; go_grown
    have hD : B3 W w.heap.size 29 (.slice a l.length cap) (.int .i64 arm) (.bool down) := by
      rw [hW.out]; exact (Below.refl (w.heap.size + 1) _).alloc (by simp) _ |>.block _ (by simp) |>.trans (heap_last0 w _)
    have hZ : B3 W (w.heap.size + 1) 29 (.slice none 0 0) (.int .i64 0) (.bool false) := by rw [hW.out]; exact heap_last1 w _ _
    have H0 := Lib.hid h
    replace h := h.kept hb0
    clear hW
    obtain ⟨d0, d1, d2, e0, e1, e2⟩ := hD.cells
    go_wp2_with (first
      | (go_at_call 12; (with_reducible refine (HT.out _).mono ?_); rintro e w1 ⟨rfl, rfl⟩)
      | (refine wpList_store_row rfl 29 _ _ rfl (w.heap.size + 1) #[.slice a l.length cap, .int .i64 arm, .bool down] rfl rfl 29 _ hZ (by kernel_rfl) rfl (by kernel_rfl) ?_)
      )
    refine retCT 6 7 29 29 (w.heap.size + 1) _ _ _ rfl rfl rfl (hZ.row _ _ _) Try.underlying29 rfl (by kernel_rfl) rfl ?_
    exact ⟨a, l, cap, rfl, H0.out.kept (below_row hb0 (Nat.le_succ _) _), hlc, rfl, below_row hb0 (Nat.le_succ _) _⟩
  case pos =>
  rw [hot] at HT
  obtain ⟨f, c, hE⟩ : ∃ f c, getE (rfsOf l) s = (f, c) := ⟨_, _, rfl⟩
  have HG := Lib.hid (fun (X : World) (h : RFsIn X a l) => rGet_to (cap := cap) hE (by omega) hs h)
  by_cases hc : c = 0
  case neg =>
    have hq : (c == 0) = false := beq_eq_false_iff_ne.2 hc
    rw [rename_err hE hc hot]
    clear hE hc hot
    go_enter Try.func30, Try.ntmps30
    go_upto_region 1 with fail
    refine wp_name (fun W hW => ?_)
    have hb0 : Below w.heap.size w W := by rw [hW.out]; go_grown
    have hD : B3 W w.heap.size 29 (.slice a l.length cap) (.int .i64 arm) (.bool down) := by
      rw [hW.out]; exact (Below.refl (w.heap.size + 1) _).alloc (by simp) _ |>.block _ (by simp) |>.trans (heap_last0 w _)
    have hZ : B3 W (w.heap.size + 1) 29 (.slice none 0 0) (.int .i64 0) (.bool false) := by rw [hW.out]; exact heap_last1 w _ _
    have H0 := Lib.hid h
    replace h := h.kept hb0
    clear hW
    obtain ⟨d0, d1, d2, e0, e1, e2⟩ := hD.cells
    go_upto_region 3 with (go_at_call 12; (with_reducible refine (HT.out _).mono ?_); rintro e w1 ⟨rfl, rfl⟩)
    go_upto_region 4 with (go_at_call 42; (with_reducible refine (HG.out _ h).mono ?_); rintro e w1 ⟨ag, cg, rfl, hgo, hb1⟩)
    refine wp_name (fun W1 hW1 => ?_)
    have hX : B3 W1 w1.heap.size 46 (.string f.name) (.slice ag f.b.length cg) (.int .i64 f.safe) := by rw [hW1.out]; exact heap_last0 w1 _
    have hbw : Below W.heap.size W W1 := by rw [hW1.out]; exact hb1.alloc hb1.size _
    have hb2 : Below w1.heap.size w1 W1 := by rw [hW1.out]; exact (Below.refl _ _).alloc (Nat.le_refl _) _
    have hz1 : w.heap.size + 1 < w1.heap.size := Nat.lt_of_lt_of_le hZ.lt hb1.size
    replace hgo := hgo.kept hb2
    replace hb0 := below2 hb0 hbw
    replace hD := hD.below hbw
    replace hZ := hZ.below hbw
    replace h := h.kept hbw
    clear hW1 hb1 hb2 hbw d0 d1 d2 e0 e1 e2
    obtain ⟨d0, d1, d2, e0, e1, e2⟩ := hD.cells
    go_wp2_with (refine wpList_store_row rfl 29 _ _ rfl (w.heap.size + 1) #[.slice a l.length cap, .int .i64 arm, .bool down] rfl rfl 29 _ hZ (by kernel_rfl) rfl (by kernel_rfl) ?_)
    refine retCT 6 7 29 29 (w.heap.size + 1) _ _ _ rfl rfl rfl (hZ.row _ _ _) Try.underlying29 rfl (by kernel_rfl) rfl ?_
    exact ⟨a, l, cap, rfl, H0.out.kept (below_row hb0 (Nat.le_succ _) _), hlc, rfl, below_row hb0 (Nat.le_succ _) _⟩
  case pos =>
  subst hc
  obtain ⟨hok, hg⟩ := getE_zero hE
  by_cases hch : chg arm down = true
  case pos =>
    have HC := Lib.hid hch
    have hr : DS.rename ⟨rfsOf l, arm, down⟩ s t = (⟨rfsOf l, arm - 1, true⟩, 12) := by
      unfold DS.rename; rw [if_pos hot, if_pos hok, hg]; unfold DS.change; unfold chg at hch; simp only [hch]; rfl
    rw [hr]
    clear hE hr hg hch hot hok
    go_enter Try.func30, Try.ntmps30
    go_upto_region 1 with fail
    refine wp_name (fun W hW => ?_)
    have hb0 : Below w.heap.size w W := by rw [hW.out]; go_grown
    have hD : B3 W w.heap.size 29 (.slice a l.length cap) (.int .i64 arm) (.bool down) := by
      rw [hW.out]; exact (Below.refl (w.heap.size + 1) _).alloc (by simp) _ |>.block _ (by simp) |>.trans (heap_last0 w _)
    have hZ : B3 W (w.heap.size + 1) 29 (.slice none 0 0) (.int .i64 0) (.bool false) := by rw [hW.out]; exact heap_last1 w _ _
    have H0 := Lib.hid h
    replace h := h.kept hb0
    clear hW
    obtain ⟨d0, d1, d2, e0, e1, e2⟩ := hD.cells
    go_upto_region 3 with (go_at_call 12; (with_reducible refine (HT.out _).mono ?_); rintro e w1 ⟨rfl, rfl⟩)
    go_upto_region 6 with (go_at_call 42; (with_reducible refine (HG.out _ h).mono ?_); rintro e w1 ⟨ag, cg, rfl, hgo, hb1⟩)
    refine wp_name (fun W1 hW1 => ?_)
    have hX : B3 W1 w1.heap.size 46 (.string f.name) (.slice ag f.b.length cg) (.int .i64 f.safe) := by rw [hW1.out]; exact heap_last0 w1 _
    have hbw : Below W.heap.size W W1 := by rw [hW1.out]; exact hb1.alloc hb1.size _
    have hb2 : Below w1.heap.size w1 W1 := by rw [hW1.out]; exact (Below.refl _ _).alloc (Nat.le_refl _) _
    have hz1 : w.heap.size + 1 < w1.heap.size := Nat.lt_of_lt_of_le hZ.lt hb1.size
    replace hgo := hgo.kept hb2
    replace hb0 := below2 hb0 hbw
    replace hD := hD.below hbw
    replace hZ := hZ.below hbw
    replace h := h.kept hbw
    clear hW1 hb1 hb2 hbw d0 d1 d2 e0 e1 e2
    obtain ⟨d0, d1, d2, e0, e1, e2⟩ := hD.cells
    go_upto_region 7 with (go_at_call 43; (with_reducible refine (rChange_any _ _ _ _ _ _ ha).mono ?_); rw [HC.out]; rintro e w2 ⟨rfl, hb1⟩)
    refine wp_name (fun W2 hW2 => ?_)
    have hY : B3 W2 w2.heap.size 29 (.slice a l.length cap) (.int .i64 ((arm - 1 : Nat) : Int)) (.bool true) := by rw [hW2.out]; exact heap_last0 w2 _
    have hbw : Below W1.heap.size W1 W2 := by rw [hW2.out]; exact hb1.alloc hb1.size _
    have hz2 : w1.heap.size < w2.heap.size := Nat.lt_of_lt_of_le hX.lt hb1.size
    replace hgo := hgo.kept hbw
    replace hb0 := below2 hb0 hbw
    replace hD := hD.below hbw
    replace hZ := hZ.below hbw
    replace hX := hX.below hbw
    replace h := h.kept hbw
    clear hW2 hb1 hbw d0 d1 d2 e0 e1 e2 hD
    obtain ⟨d0, d1, d2, e0, e1, e2⟩ := hY.cells
    obtain ⟨x0, x1, x2, y0, y1, y2⟩ := hX.cells
    go_wp2_with (refine wpList_store_row rfl 29 _ _ rfl (w.heap.size + 1) #[.slice a l.length cap, .int .i64 ((arm - 1 : Nat) : Int), .bool true] rfl rfl 29 _ hZ (by kernel_rfl) rfl (by kernel_rfl) ?_)
    refine retCT 6 7 29 29 (w.heap.size + 1) _ _ _ rfl rfl rfl (hZ.row _ _ _) Try.underlying29 rfl (by kernel_rfl) rfl ?_
    exact ⟨a, l, cap, rfl, H0.out.kept (below_row hb0 (Nat.le_succ _) _), hlc, rfl, below_row hb0 (Nat.le_succ _) _⟩
  case neg =>
    have hch' := Bool.eq_false_iff.2 hch
    have HC := Lib.hid hch'
    have hr : DS.rename ⟨rfsOf l, arm, down⟩ s t = (⟨putF (delF (rfsOf l) s) { f with name := t }, arm - 1, false⟩, 0) := by
      unfold DS.rename; rw [if_pos hot, if_pos hok, hg]; unfold DS.change; unfold chg at hch'; simp only [hch']; rfl
    rw [hr]
    have HW := Lib.hid (fun (X : World) (h : RFsIn X a l) => rWithout_any a cap l s X (by omega) h)
    have hml := delRF_len l s
    have HDL := Lib.hid (rfsOf_delRF l s)
    generalize delRF l s = m at *
    clear hE hr hg hch hch' hot hok
    go_enter Try.func30, Try.ntmps30
    go_upto_region 1 with fail
    refine wp_name (fun W hW => ?_)
    have hb0 : Below w.heap.size w W := by rw [hW.out]; go_grown
    have hD : B3 W w.heap.size 29 (.slice a l.length cap) (.int .i64 arm) (.bool down) := by
      rw [hW.out]; exact (Below.refl (w.heap.size + 1) _).alloc (by simp) _ |>.block _ (by simp) |>.trans (heap_last0 w _)
    have hZ : B3 W (w.heap.size + 1) 29 (.slice none 0 0) (.int .i64 0) (.bool false) := by rw [hW.out]; exact heap_last1 w _ _
    have H0 := Lib.hid h
    replace h := h.kept hb0
    clear hW
    obtain ⟨d0, d1, d2, e0, e1, e2⟩ := hD.cells
    go_upto_region 3 with (go_at_call 12; (with_reducible refine (HT.out _).mono ?_); rintro e w1 ⟨rfl, rfl⟩)
    go_upto_region 6 with (go_at_call 42; (with_reducible refine (HG.out _ h).mono ?_); rintro e w1 ⟨ag, cg, rfl, hgo, hb1⟩)
    refine wp_name (fun W1 hW1 => ?_)
    have hX : B3 W1 w1.heap.size 46 (.string f.name) (.slice ag f.b.length cg) (.int .i64 f.safe) := by rw [hW1.out]; exact heap_last0 w1 _
    have hbw : Below W.heap.size W W1 := by rw [hW1.out]; exact hb1.alloc hb1.size _
    have hb2 : Below w1.heap.size w1 W1 := by rw [hW1.out]; exact (Below.refl _ _).alloc (Nat.le_refl _) _
    have hz1 : w.heap.size + 1 < w1.heap.size := Nat.lt_of_lt_of_le hZ.lt hb1.size
    replace hgo := hgo.kept hb2
    replace hb0 := below2 hb0 hbw
    replace hD := hD.below hbw
    replace hZ := hZ.below hbw
    replace h := h.kept hbw
    clear hW1 hb1 hb2 hbw d0 d1 d2 e0 e1 e2
    obtain ⟨d0, d1, d2, e0, e1, e2⟩ := hD.cells
    go_upto_region 7 with (go_at_call 43; (with_reducible refine (rChange_any _ _ _ _ _ _ ha).mono ?_); rw [HC.out]; rintro e w2 ⟨rfl, hb1⟩)
    refine wp_name (fun W2 hW2 => ?_)
    have hY : B3 W2 w2.heap.size 29 (.slice a l.length cap) (.int .i64 ((arm - 1 : Nat) : Int)) (.bool false) := by rw [hW2.out]; exact heap_last0 w2 _
    have hbw : Below W1.heap.size W1 W2 := by rw [hW2.out]; exact hb1.alloc hb1.size _
    have hz2 : w1.heap.size < w2.heap.size := Nat.lt_of_lt_of_le hX.lt hb1.size
    replace hgo := hgo.kept hbw
    replace hb0 := below2 hb0 hbw
    replace hD := hD.below hbw
    replace hZ := hZ.below hbw
    replace hX := hX.below hbw
    replace h := h.kept hbw
    clear hW2 hb1 hbw d0 d1 d2 e0 e1 e2 hD
    obtain ⟨d0, d1, d2, e0, e1, e2⟩ := hY.cells
    obtain ⟨x0, x1, x2, y0, y1, y2⟩ := hX.cells
    go_upto_region 10 with fail
    refine wp_name (fun W3 hW3 => ?_)
    have hX3 : B3 W3 w1.heap.size 46 (.string t) (.slice ag f.b.length cg) (.int .i64 f.safe) := by rw [hW3.out]; exact hX.set0 _
    have hY3 : B3 W3 w2.heap.size 29 (.slice a l.length cap) (.int .i64 ((arm - 1 : Nat) : Int)) (.bool false) := by rw [hW3.out]; exact hY.other _ (Nat.ne_of_lt hz2)
    have hZ3 : B3 W3 (w.heap.size + 1) 29 (.slice none 0 0) (.int .i64 0) (.bool false) := by rw [hW3.out]; exact hZ.other _ (Nat.ne_of_gt hz1)
    have hgo3 : RFOk W3 ⟨{ f with name := t }, ag, cg⟩ := ⟨by rw [hW3.out]; exact hgo.bytes.fr (S := isR w1.heap.size) (fr_set _) (fun k hk => by subst hk; exact hX.noByte ⟨trivial, trivial, trivial⟩), hgo.cap⟩
    have hb3 : Below w.heap.size w W3 := by rw [hW3.out]; exact below_set hb0 (by simp only; omega) _
    have h3 := H0.out.kept hb3
    clear hW3 hX hY hZ hgo hb0 h d0 d1 d2 e0 e1 e2 x0 x1 x2 y0 y1 y2
    replace hX3 : B3 W3.drew w1.heap.size 46 (.string t) (.slice ag f.b.length cg) (.int .i64 f.safe) := hX3
    replace hY3 : B3 W3.drew w2.heap.size 29 (.slice a l.length cap) (.int .i64 ((arm - 1 : Nat) : Int)) (.bool false) := hY3
    replace hZ3 : B3 W3.drew (w.heap.size + 1) 29 (.slice none 0 0) (.int .i64 0) (.bool false) := hZ3
    replace hgo3 : RFOk W3.drew ⟨{ f with name := t }, ag, cg⟩ := ⟨hgo3.bytes, hgo3.cap⟩
    replace h3 : RFsIn W3.drew a l := H0.out.kept hb3.drew
    replace hb3 : Below w.heap.size w W3.drew := hb3.drew
    obtain ⟨d0, d1, d2, e0, e1, e2⟩ := hY3.cells
    obtain ⟨x0, x1, x2, y0, y1, y2⟩ := hX3.cells
    go_region_law
      (first
        | (go_simp; go_at_call 45; (with_reducible refine (HW.out _ h3).mono ?_); rintro e w3 ⟨a3, c3, rfl, hin3, hc3, hb4⟩; replace hY3 := hY3.below hb4; replace hX3 := hX3.below hb4; replace hZ3 := hZ3.below hb4; replace hb3 := below2 hb3 hb4; replace hgo3 := hgo3.kept hb4; clear d0 d1 d2 e0 e1 e2 x0 x1 x2 y0 y1 y2 h3; obtain ⟨d0, d1, d2, e0, e1, e2⟩ := hY3.cells; obtain ⟨x0, x1, x2, y0, y1, y2⟩ := hX3.cells)
        | (go_simp; go_at_call 44; (with_reducible refine (rSet_any a3 c3 m ⟨{ f with name := t }, ag, cg⟩ _ (by omega) hc3 hin3 hgo3).mono ?_); rintro e w4 ⟨a4, c4, rfl, hin4, hc4, hb5⟩; replace hY3 := hY3.below hb5; replace hX3 := hX3.below hb5; replace hZ3 := hZ3.below hb5; replace hb3 := below2 hb3 hb5; clear d0 d1 d2 e0 e1 e2 x0 x1 x2 y0 y1 y2; obtain ⟨d0, d1, d2, e0, e1, e2⟩ := hY3.cells; obtain ⟨x0, x1, x2, y0, y1, y2⟩ := hX3.cells))
    all_goals
      go_upto_region 11 with fail
      refine wp_name (fun W5 hW5 => ?_)
      have hY5 : B3 W5 w2.heap.size 29 (.slice a4 (putRF m ⟨{ f with name := t }, ag, cg⟩).length c4) (.int .i64 ((arm - 1 : Nat) : Int)) (.bool false) := by rw [hW5.out]; exact hY3.set0 _
      have hZ5 : B3 W5 (w.heap.size + 1) 29 (.slice none 0 0) (.int .i64 0) (.bool false) := by rw [hW5.out]; exact hZ3.other _ (by simp only; omega)
      have hb5 : Below w.heap.size w W5 := by rw [hW5.out]; exact below_set hb3 (by simp only; omega) _
      have hin5 : RFsIn W5 a4 (putRF m ⟨{ f with name := t }, ag, cg⟩) := by rw [hW5.out]; exact hin4.fr (T := isR w2.heap.size) (fr_set _) (fun k hk => by subst hk; exact ⟨hY3.noByte ⟨trivial, trivial, trivial⟩, hY3.noStr ⟨trivial, trivial, trivial⟩⟩)
      clear hW5 hY3 hZ3 hb3 hin4 d0 d1 d2 e0 e1 e2
      obtain ⟨d0, d1, d2, e0, e1, e2⟩ := hY5.cells
      go_wp2_with (refine wpList_store_row rfl 29 _ _ rfl (w.heap.size + 1) #[.slice a4 (putRF m ⟨{ f with name := t }, ag, cg⟩).length c4, .int .i64 ((arm - 1 : Nat) : Int), .bool false] rfl rfl 29 _ hZ5 (by kernel_rfl) rfl (by kernel_rfl) ?_)
      refine retCT 6 7 29 29 (w.heap.size + 1) _ _ _ rfl rfl rfl (hZ5.row _ _ _) Try.underlying29 rfl (by kernel_rfl) rfl ?_
      refine ⟨a4, _, c4, rfl, ?_, hc4, ((rfsOf_putRF _ _).trans (by rw [HDL.out])), below_row hb5 (Nat.le_succ _) _⟩
      exact hin5.fr (T := isR (w.heap.size + 1)) (fr_row _ _ _) (fun k hk => by subst hk; exact ⟨hZ5.noByte ⟨trivial, trivial, trivial⟩, hZ5.noStr ⟨trivial, trivial, trivial⟩⟩)

set_option maxHeartbeats 1000000 in
theorem rArm_any (a : Option Addr) (n cap arm : Nat) (down : Bool) (N : Int) (w : World) :
    Calls Try.prog 32 #[rdkVal a n cap arm down, .int .i64 N] w fun e w' =>
      e = .returned (.tuple #[rdkVal a n cap (if armOk N then N.toNat else arm) down, .int .i64 (if armOk N then 0 else 4)]) ∧ Below w.heap.size w w' := by
  by_cases h1 : 1 ≤ N
  case neg =>
    have hr : armOk N = false := by unfold armOk; rw [decide_eq_false h1]; rfl
    simp only [hr, Bool.false_eq_true, if_false]
    have h1' : N < 1 := by omega
    clear hr
    go_enter Try.func32, Try.ntmps32
    go_wp2
    refine retCT 4 5 29 29 (w.heap.size + 1) _ _ _ rfl rfl rfl (heap_last1 _ _ _) Try.underlying29 rfl (by kernel_rfl) rfl ?_
    exact ⟨rfl, by go_grown⟩
  case pos =>
  by_cases h2 : N ≤ 1048576
  case neg =>
    have hr : armOk N = false := by unfold armOk; rw [decide_eq_false h2]; simp
    simp only [hr, Bool.false_eq_true, if_false]
    clear hr
    go_enter Try.func32, Try.ntmps32
    go_wp2
    refine retCT 4 5 29 29 (w.heap.size + 1) _ _ _ rfl rfl rfl (heap_last1 _ _ _) Try.underlying29 rfl (by kernel_rfl) rfl ?_
    exact ⟨rfl, by go_grown⟩
  case pos =>
  have hr : armOk N = true := by unfold armOk; rw [decide_eq_true h1, decide_eq_true h2]; rfl
  simp only [hr, if_true]
  obtain ⟨m, rfl⟩ : ∃ m : Nat, N = m := ⟨N.toNat, by omega⟩
  clear hr
  go_enter Try.func32, Try.ntmps32
  go_wp2
  refine retCT 4 5 29 29 (w.heap.size + 1) _ _ _ rfl rfl rfl (heap_last1 _ _ _) Try.underlying29 rfl (by kernel_rfl) rfl ?_
  exact ⟨rfl, by go_grown⟩
end Go.Proofs.Ytbkelbdeodbhcaa
