/- The reference's disk: Truncate, Arm. Conditions: as in the text. -/
import Derived.Test.YtbkelbdeodbhcaaDRefD
set_option linter.unusedSimpArgs false
set_option linter.unusedVariables false
set_option linter.unnecessarySimpa false
namespace Go.Proofs.Ytbkelbdeodbhcaa
open Go.RowKit

def DS.rtrunc (S : DS) (s : ByteArray) (n : Int) : DS × Int :=
  if nameOk s then (match getF S.f s with
    | none => (S, 10)
    | some f => if n < 0 ∨ (f.b.length : Int) < n then (S, 4) else if S.change.down then (S.change, 12) else ({ S.change with f := putF S.f { f with b := f.b.take n.toNat, safe := min f.safe n.toNat } }, 0)) else (S, 1)
theorem bytes_take {w : World} {a : Option Addr} {l : Bytes} (h : BytesIn w a l) (n : Nat) : BytesIn w a (l.take n) := h.take n
theorem Try.infoU8 : (Try.prog.info? 5).map (fun i => (i.zero, i.size, i.bytes)) = some (some (.int .u8 0), 1, 1) := by kernel_rfl

set_option maxRecDepth 100000 in
set_option maxHeartbeats 1000000 in
theorem rTrunc_any (a : Option Addr) (cap arm : Nat) (down : Bool) (l : List RF) (s : ByteArray) (n : Int) (w : World) (hl : l.length ≤ 16777216) (hlc : l.length ≤ cap) (ha : arm ≤ 1048576) (hs : s.size ≤ maxLen) (hb : ∀ g ∈ l, g.f.b.length ≤ 16777216) (h : RFsIn w a l) :
    Calls Try.prog 29 #[rdkVal a l.length cap arm down, .string s, .int .i64 n] w (RetRD (DS.rtrunc ⟨rfsOf l, arm, down⟩ s n).1 (DS.rtrunc ⟨rfsOf l, arm, down⟩ s n).2 w) := by
  obtain ⟨f, c, hE⟩ : ∃ f c, getE (rfsOf l) s = (f, c) := ⟨_, _, rfl⟩
  have HG := Lib.hid (fun (X : World) (h : RFsIn X a l) => rGet_to (cap := cap) hE (by omega) hs h)
  by_cases hc : c = 0
  case neg =>
    have hq : (c == 0) = false := beq_eq_false_iff_ne.2 hc
    have hr : DS.rtrunc ⟨rfsOf l, arm, down⟩ s n = (⟨rfsOf l, arm, down⟩, c) := by
      unfold getE at hE
      unfold DS.rtrunc
      by_cases hok : nameOk s = true
      · rw [if_pos hok] at hE ⊢
        cases hg : getF (rfsOf l) s with
        | none => rw [hg] at hE; simp only [Prod.mk.injEq] at hE ⊢; exact ⟨trivial, hE.2⟩
        | some f' => rw [hg] at hE; simp only [Prod.mk.injEq] at hE; exact absurd hE.2.symm hc
      · rw [if_neg hok] at hE ⊢
        simp only [Prod.mk.injEq] at hE ⊢
        exact ⟨trivial, hE.2⟩
    rw [hr]
    clear hE hc hr hb
    go_enter Try.func29, Try.ntmps29
    go_upto_region 1 with fail
    refine wp_name (fun W hW => ?_)
    have hb0 : Below w.heap.size w W := by rw [hW.out]; go_grown
    have hD : B3 W w.heap.size 29 (.slice a l.length cap) (.int .i64 arm) (.bool down) := by
      rw [hW.out]; exact (Below.refl (w.heap.size + 1) _).alloc (by simp) _ |>.block _ (by simp) |>.trans (heap_last0 w _)
    have hZ : B3 W (w.heap.size + 1) 29 (.slice none 0 0) (.int .i64 0) (.bool false) := by rw [hW.out]; exact heap_last1 w _ _
    have H0 := Lib.hid h
    replace h := h.kept hb0
    clear hW
    obtain ⟨d0, d1, d2, e0, e1, e2⟩ := hD.cells
    go_upto_region 2 with (go_at_call 42; (with_reducible refine (HG.out _ h).mono ?_); rintro e w1 ⟨ag, cg, rfl, hgo, hb1⟩)
    refine wp_name (fun W1 hW1 => ?_)
    have hX : B3 W1 w1.heap.size 46 (.string f.name) (.slice ag f.b.length cg) (.int .i64 f.safe) := by rw [hW1.out]; exact heap_last0 w1 _
    have hbw : Below W.heap.size W W1 := by rw [hW1.out]; exact hb1.alloc hb1.size _
    have hb2 : Below w1.heap.size w1 W1 := by rw [hW1.out]; exact (Below.refl _ _).alloc (Nat.le_refl _) _
    have hz1 : w.heap.size + 1 < w1.heap.size := Nat.lt_of_lt_of_le hZ.lt hb1.size
    replace hgo := hgo.kept hb2
    replace hb0 := below2 hb0 hbw
    replace hD := hD.below hbw
    replace hZ := hZ.below hbw
    replace h := h.kept hbw
    clear hW1 hb1 hb2 hbw d0 d1 d2 e0 e1 e2
    obtain ⟨d0, d1, d2, e0, e1, e2⟩ := hD.cells
    go_wp2_with (refine wpList_store_row rfl 29 _ _ rfl (w.heap.size + 1) #[.slice a l.length cap, .int .i64 arm, .bool down] rfl rfl 29 _ hZ (by kernel_rfl) rfl (by kernel_rfl) ?_)
    refine retCT 6 7 29 29 (w.heap.size + 1) _ _ _ rfl rfl rfl (hZ.row _ _ _) Try.underlying29 rfl (by kernel_rfl) rfl ?_
    exact ⟨a, l, cap, rfl, H0.out.kept (below_row hb0 (Nat.le_succ _) _), hlc, rfl, below_row hb0 (Nat.le_succ _) _⟩
  case pos =>
  subst hc
  obtain ⟨hok, hg⟩ := getE_zero hE
  by_cases hn : n < 0 ∨ (f.b.length : Int) < n
  case pos =>
    have hr : DS.rtrunc ⟨rfsOf l, arm, down⟩ s n = (⟨rfsOf l, arm, down⟩, 4) := by unfold DS.rtrunc; rw [if_pos hok, hg]; exact if_pos hn
    rw [hr]
    clear hE hr hg hb
    by_cases hn0 : n < 0
    case' neg =>
      have hn1 : (f.b.length : Int) < n := by omega
    all_goals
      clear hn
      go_enter Try.func29, Try.ntmps29
      go_upto_region 1 with fail
      refine wp_name (fun W hW => ?_)
      have hb0 : Below w.heap.size w W := by rw [hW.out]; go_grown
      have hD : B3 W w.heap.size 29 (.slice a l.length cap) (.int .i64 arm) (.bool down) := by
        rw [hW.out]; exact (Below.refl (w.heap.size + 1) _).alloc (by simp) _ |>.block _ (by simp) |>.trans (heap_last0 w _)
      have hZ : B3 W (w.heap.size + 1) 29 (.slice none 0 0) (.int .i64 0) (.bool false) := by rw [hW.out]; exact heap_last1 w _ _
      have H0 := Lib.hid h
      replace h := h.kept hb0
      clear hW
      obtain ⟨d0, d1, d2, e0, e1, e2⟩ := hD.cells
      go_upto_region 4 with (go_at_call 42; (with_reducible refine (HG.out _ h).mono ?_); rintro e w1 ⟨ag, cg, rfl, hgo, hb1⟩)
      refine wp_name (fun W1 hW1 => ?_)
      have hX : B3 W1 w1.heap.size 46 (.string f.name) (.slice ag f.b.length cg) (.int .i64 f.safe) := by rw [hW1.out]; exact heap_last0 w1 _
      have hbw : Below W.heap.size W W1 := by rw [hW1.out]; exact hb1.alloc hb1.size _
      have hb2 : Below w1.heap.size w1 W1 := by rw [hW1.out]; exact (Below.refl _ _).alloc (Nat.le_refl _) _
      have hz1 : w.heap.size + 1 < w1.heap.size := Nat.lt_of_lt_of_le hZ.lt hb1.size
      replace hgo := hgo.kept hb2
      replace hb0 := below2 hb0 hbw
      replace hD := hD.below hbw
      replace hZ := hZ.below hbw
      replace h := h.kept hbw
      clear hW1 hb1 hb2 hbw d0 d1 d2 e0 e1 e2
      obtain ⟨d0, d1, d2, e0, e1, e2⟩ := hD.cells
      obtain ⟨x0, x1, x2, y0, y1, y2⟩ := hX.cells
      go_wp2_with (refine wpList_store_row rfl 29 _ _ rfl (w.heap.size + 1) #[.slice a l.length cap, .int .i64 arm, .bool down] rfl rfl 29 _ hZ (by kernel_rfl) rfl (by kernel_rfl) ?_)
      refine retCT 6 7 29 29 (w.heap.size + 1) _ _ _ rfl rfl rfl (hZ.row _ _ _) Try.underlying29 rfl (by kernel_rfl) rfl ?_
      exact ⟨a, l, cap, rfl, H0.out.kept (below_row hb0 (Nat.le_succ _) _), hlc, rfl, below_row hb0 (Nat.le_succ _) _⟩
  case neg =>
  obtain ⟨k, rfl⟩ : ∃ k : Nat, n = k := ⟨n.toNat, by omega⟩
  have hk : k ≤ f.b.length := by omega
  have hn0 : ¬ ((k : Int) < 0) := by omega
  have hn1 : ¬ ((f.b.length : Int) < (k : Int)) := by omega
  by_cases hch : chg arm down = true
  case pos =>
    have HC := Lib.hid hch
    have hr : DS.rtrunc ⟨rfsOf l, arm, down⟩ s k = (⟨rfsOf l, arm - 1, true⟩, 12) := by
      unfold DS.rtrunc; rw [if_pos hok, hg]; unfold DS.change; unfold chg at hch; simp only [if_neg hn, hch]; rfl
    rw [hr]
    clear hE hr hg hch hn hb
    go_enter Try.func29, Try.ntmps29
    go_upto_region 1 with fail
    refine wp_name (fun W hW => ?_)
    have hb0 : Below w.heap.size w W := by rw [hW.out]; go_grown
    have hD : B3 W w.heap.size 29 (.slice a l.length cap) (.int .i64 arm) (.bool down) := by
      rw [hW.out]; exact (Below.refl (w.heap.size + 1) _).alloc (by simp) _ |>.block _ (by simp) |>.trans (heap_last0 w _)
    have hZ : B3 W (w.heap.size + 1) 29 (.slice none 0 0) (.int .i64 0) (.bool false) := by rw [hW.out]; exact heap_last1 w _ _
    have H0 := Lib.hid h
    replace h := h.kept hb0
    clear hW
    obtain ⟨d0, d1, d2, e0, e1, e2⟩ := hD.cells
    go_upto_region 4 with (go_at_call 42; (with_reducible refine (HG.out _ h).mono ?_); rintro e w1 ⟨ag, cg, rfl, hgo, hb1⟩)
    refine wp_name (fun W1 hW1 => ?_)
    have hX : B3 W1 w1.heap.size 46 (.string f.name) (.slice ag f.b.length cg) (.int .i64 f.safe) := by rw [hW1.out]; exact heap_last0 w1 _
    have hbw : Below W.heap.size W W1 := by rw [hW1.out]; exact hb1.alloc hb1.size _
    have hb2 : Below w1.heap.size w1 W1 := by rw [hW1.out]; exact (Below.refl _ _).alloc (Nat.le_refl _) _
    have hz1 : w.heap.size + 1 < w1.heap.size := Nat.lt_of_lt_of_le hZ.lt hb1.size
    replace hgo := hgo.kept hb2
    replace hb0 := below2 hb0 hbw
    replace hD := hD.below hbw
    replace hZ := hZ.below hbw
    replace h := h.kept hbw
    clear hW1 hb1 hb2 hbw d0 d1 d2 e0 e1 e2
    obtain ⟨d0, d1, d2, e0, e1, e2⟩ := hD.cells
    obtain ⟨x0, x1, x2, y0, y1, y2⟩ := hX.cells
    go_upto_region 6 with fail
    clear x0 x1 x2 y0 y1 y2
    go_upto_region 7 with (go_at_call 43; (with_reducible refine (rChange_any _ _ _ _ _ _ ha).mono ?_); rw [HC.out]; rintro e w2 ⟨rfl, hb1⟩)
    refine wp_name (fun W2 hW2 => ?_)
    have hY : B3 W2 w2.heap.size 29 (.slice a l.length cap) (.int .i64 ((arm - 1 : Nat) : Int)) (.bool true) := by rw [hW2.out]; exact heap_last0 w2 _
    have hbw : Below W1.heap.size W1 W2 := by rw [hW2.out]; exact hb1.alloc hb1.size _
    have hz2 : w1.heap.size < w2.heap.size := Nat.lt_of_lt_of_le hX.lt hb1.size
    replace hgo := hgo.kept hbw
    replace hb0 := below2 hb0 hbw
    replace hD := hD.below hbw
    replace hZ := hZ.below hbw
    replace hX := hX.below hbw
    replace h := h.kept hbw
    clear hW2 hb1 hbw d0 d1 d2 e0 e1 e2 hD
    obtain ⟨d0, d1, d2, e0, e1, e2⟩ := hY.cells
    obtain ⟨x0, x1, x2, y0, y1, y2⟩ := hX.cells
    go_wp2_with (refine wpList_store_row rfl 29 _ _ rfl (w.heap.size + 1) #[.slice a l.length cap, .int .i64 ((arm - 1 : Nat) : Int), .bool true] rfl rfl 29 _ hZ (by kernel_rfl) rfl (by kernel_rfl) ?_)
    refine retCT 6 7 29 29 (w.heap.size + 1) _ _ _ rfl rfl rfl (hZ.row _ _ _) Try.underlying29 rfl (by kernel_rfl) rfl ?_
    exact ⟨a, l, cap, rfl, H0.out.kept (below_row hb0 (Nat.le_succ _) _), hlc, rfl, below_row hb0 (Nat.le_succ _) _⟩
  case neg =>
    have hch' := Bool.eq_false_iff.2 hch
    have HC := Lib.hid hch'
    obtain ⟨fb, hfb⟩ : ∃ fb, f.b.take k = fb := ⟨_, rfl⟩
    have hr : DS.rtrunc ⟨rfsOf l, arm, down⟩ s k = (⟨putF (rfsOf l) ⟨f.name, fb, min f.safe k⟩, arm - 1, false⟩, 0) := by
      rw [← hfb]
      unfold DS.rtrunc; rw [if_pos hok, hg]; unfold DS.change; unfold chg at hch'; simp only [if_neg hn, hch']; rfl
    rw [hr]
    obtain ⟨iu, hiu, hzu0, hzu1, hzu2⟩ := info_parts Try.infoU8
    clear hE hr hg hch hch' hn hb
    have HTL : Hid (fb.length = k) := Lib.hid (by rw [← hfb]; simp; omega)
    have HFB := Lib.hid hfb
    clear hfb
    go_enter Try.func29, Try.ntmps29
    go_upto_region 1 with fail
    refine wp_name (fun W hW => ?_)
    have hb0 : Below w.heap.size w W := by rw [hW.out]; go_grown
    have hD : B3 W w.heap.size 29 (.slice a l.length cap) (.int .i64 arm) (.bool down) := by
      rw [hW.out]; exact (Below.refl (w.heap.size + 1) _).alloc (by simp) _ |>.block _ (by simp) |>.trans (heap_last0 w _)
    have hZ : B3 W (w.heap.size + 1) 29 (.slice none 0 0) (.int .i64 0) (.bool false) := by rw [hW.out]; exact heap_last1 w _ _
    have H0 := Lib.hid h
    replace h := h.kept hb0
    clear hW
    obtain ⟨d0, d1, d2, e0, e1, e2⟩ := hD.cells
    go_upto_region 4 with (go_at_call 42; (with_reducible refine (HG.out _ h).mono ?_); rintro e w1 ⟨ag, cg, rfl, hgo, hb1⟩)
    refine wp_name (fun W1 hW1 => ?_)
    have hX : B3 W1 w1.heap.size 46 (.string f.name) (.slice ag f.b.length cg) (.int .i64 f.safe) := by rw [hW1.out]; exact heap_last0 w1 _
    have hbw : Below W.heap.size W W1 := by rw [hW1.out]; exact hb1.alloc hb1.size _
    have hb2 : Below w1.heap.size w1 W1 := by rw [hW1.out]; exact (Below.refl _ _).alloc (Nat.le_refl _) _
    have hz1 : w.heap.size + 1 < w1.heap.size := Nat.lt_of_lt_of_le hZ.lt hb1.size
    replace hgo := hgo.kept hb2
    replace hb0 := below2 hb0 hbw
    replace hD := hD.below hbw
    replace hZ := hZ.below hbw
    replace h := h.kept hbw
    clear hW1 hb1 hb2 hbw d0 d1 d2 e0 e1 e2
    obtain ⟨d0, d1, d2, e0, e1, e2⟩ := hD.cells
    have hkc : k ≤ cg := Nat.le_trans hk hgo.cap
    have hcut : ∀ X, (Instr.sliceAt 32 (.slice ag f.b.length cg) none (some (.int .i64 (k : Nat))) none).run Try.prog X = .ok (.slice ag k cg) X := fun X => run_cut_hi X _ _ iu ag f.b.length cg .i64 k Try.underlying32 hiu hkc
    obtain ⟨x0, x1, x2, y0, y1, y2⟩ := hX.cells
    go_upto_region 6 with fail
    clear x0 x1 x2 y0 y1 y2
    go_upto_region 7 with (go_at_call 43; (with_reducible refine (rChange_any _ _ _ _ _ _ ha).mono ?_); rw [HC.out]; rintro e w2 ⟨rfl, hb1⟩)
    refine wp_name (fun W2 hW2 => ?_)
    have hY : B3 W2 w2.heap.size 29 (.slice a l.length cap) (.int .i64 ((arm - 1 : Nat) : Int)) (.bool false) := by rw [hW2.out]; exact heap_last0 w2 _
    have hbw : Below W1.heap.size W1 W2 := by rw [hW2.out]; exact hb1.alloc hb1.size _
    have hz2 : w1.heap.size < w2.heap.size := Nat.lt_of_lt_of_le hX.lt hb1.size
    replace hgo := hgo.kept hbw
    replace hb0 := below2 hb0 hbw
    replace hD := hD.below hbw
    replace hZ := hZ.below hbw
    replace hX := hX.below hbw
    replace h := h.kept hbw
    clear hW2 hb1 hbw d0 d1 d2 e0 e1 e2 hD
    obtain ⟨d0, d1, d2, e0, e1, e2⟩ := hY.cells
    obtain ⟨x0, x1, x2, y0, y1, y2⟩ := hX.cells
    go_upto_region 10 with (refine wpList_of_exec rfl _ (exec_slice _ _ _ _ _ rfl _ (hcut _)) ?_)
    refine wp_name (fun W3 hW3 => ?_)
    have hX3 : B3 W3 w1.heap.size 46 (.string f.name) (.slice ag fb.length cg) (.int .i64 f.safe) := by rw [hW3.out, HTL.out]; exact hX.set1 _
    have hY3 : B3 W3 w2.heap.size 29 (.slice a l.length cap) (.int .i64 ((arm - 1 : Nat) : Int)) (.bool false) := by rw [hW3.out]; exact hY.other _ (Nat.ne_of_lt hz2)
    have hZ3 : B3 W3 (w.heap.size + 1) 29 (.slice none 0 0) (.int .i64 0) (.bool false) := by rw [hW3.out]; exact hZ.other _ (Nat.ne_of_gt hz1)
    have hgo3 : BytesIn W3 ag fb := by rw [hW3.out, ← HFB.out]; exact (bytes_take hgo.bytes k).fr (S := isR w1.heap.size) (fr_set _) (fun k hk => by subst hk; exact hX.noByte ⟨trivial, trivial, trivial⟩)
    have hcap := hgo.cap
    have hb3 : Below w.heap.size w W3 := by rw [hW3.out]; exact below_set hb0 (by simp only; omega) _
    clear hW3 hX hY hZ hgo hb0 h d0 d1 d2 e0 e1 e2 x0 x1 x2 y0 y1 y2
    obtain ⟨d0, d1, d2, e0, e1, e2⟩ := hY3.cells
    obtain ⟨x0, x1, x2, y0, y1, y2⟩ := hX3.cells
    have hfbl : fb.length ≤ cg := by rw [HTL.out]; exact hkc
    by_cases hsk : (k : Int) < (f.safe : Int)
    case pos =>
      have hmin : min f.safe k = k := by omega
      have HM := Lib.hid hmin
      clear hmin
      go_upto_region 12 with fail
      refine wp_name (fun W4 hW4 => ?_)
      have hX4 : B3 W4 w1.heap.size 46 (.string f.name) (.slice ag fb.length cg) (.int .i64 k) := by rw [hW4.out]; exact hX3.set2 _
      have hY4 : B3 W4 w2.heap.size 29 (.slice a l.length cap) (.int .i64 ((arm - 1 : Nat) : Int)) (.bool false) := by rw [hW4.out]; exact hY3.other _ (Nat.ne_of_lt hz2)
      have hZ4 : B3 W4 (w.heap.size + 1) 29 (.slice none 0 0) (.int .i64 0) (.bool false) := by rw [hW4.out]; exact hZ3.other _ (Nat.ne_of_gt hz1)
      have hgo4 : RFOk W4 ⟨⟨f.name, fb, k⟩, ag, cg⟩ := ⟨by rw [hW4.out]; exact hgo3.fr (S := isR w1.heap.size) (fr_set _) (fun k hk => by subst hk; exact hX3.noByte ⟨trivial, trivial, trivial⟩), hfbl⟩
      have hb4 : Below w.heap.size w W4 := by rw [hW4.out]; exact below_set hb3 (by simp only; omega) _
      clear hW4 hX3 hY3 hZ3 hgo3 hb3 d0 d1 d2 e0 e1 e2 x0 x1 x2 y0 y1 y2
      have h4 := H0.out.kept hb4
      obtain ⟨d0, d1, d2, e0, e1, e2⟩ := hY4.cells
      obtain ⟨x0, x1, x2, y0, y1, y2⟩ := hX4.cells
      go_upto_region 13 with (go_at_call 44; (with_reducible refine (rSet_any a cap l ⟨⟨f.name, fb, k⟩, ag, cg⟩ _ (by omega) hlc h4 hgo4).mono ?_); rintro e w4 ⟨a4, c4, rfl, hin4, hc4, hb5⟩; have hY3 := hY4.below hb5; have hZ3 := hZ4.below hb5; have hb3 := below2 hb4 hb5; clear d0 d1 d2 e0 e1 e2 x0 x1 x2 y0 y1 y2 hY4 hZ4 hb4; obtain ⟨d0, d1, d2, e0, e1, e2⟩ := hY3.cells)
      refine wp_name (fun W5 hW5 => ?_)
      have hY5 : B3 W5 w2.heap.size 29 (.slice a4 (putRF l ⟨⟨f.name, fb, k⟩, ag, cg⟩).length c4) (.int .i64 ((arm - 1 : Nat) : Int)) (.bool false) := by rw [hW5.out]; exact hY3.set0 _
      have hZ5 : B3 W5 (w.heap.size + 1) 29 (.slice none 0 0) (.int .i64 0) (.bool false) := by rw [hW5.out]; exact hZ3.other _ (by simp only; omega)
      have hb5 : Below w.heap.size w W5 := by rw [hW5.out]; exact below_set hb3 (by simp only; omega) _
      have hin5 : RFsIn W5 a4 (putRF l ⟨⟨f.name, fb, k⟩, ag, cg⟩) := by rw [hW5.out]; exact hin4.fr (T := isR w2.heap.size) (fr_set _) (fun k hk => by subst hk; exact ⟨hY3.noByte ⟨trivial, trivial, trivial⟩, hY3.noStr ⟨trivial, trivial, trivial⟩⟩)
      clear hW5 hY3 hZ3 hb3 hin4 d0 d1 d2 e0 e1 e2
      obtain ⟨d0, d1, d2, e0, e1, e2⟩ := hY5.cells
      go_wp2_with (refine wpList_store_row rfl 29 _ _ rfl (w.heap.size + 1) #[.slice a4 (putRF l ⟨⟨f.name, fb, k⟩, ag, cg⟩).length c4, .int .i64 ((arm - 1 : Nat) : Int), .bool false] rfl rfl 29 _ hZ5 (by kernel_rfl) rfl (by kernel_rfl) ?_)
      refine retCT 6 7 29 29 (w.heap.size + 1) _ _ _ rfl rfl rfl (hZ5.row _ _ _) Try.underlying29 rfl (by kernel_rfl) rfl ?_
      refine ⟨a4, _, c4, rfl, ?_, hc4, (by rw [HM.out]; exact rfsOf_putRF _ _), below_row hb5 (Nat.le_succ _) _⟩
      exact hin5.fr (T := isR (w.heap.size + 1)) (fr_row _ _ _) (fun k hk => by subst hk; exact ⟨hZ5.noByte ⟨trivial, trivial, trivial⟩, hZ5.noStr ⟨trivial, trivial, trivial⟩⟩)
    case neg =>
      have hmin : min f.safe k = f.safe := by omega
      have HM := Lib.hid hmin
      clear hmin
      go_upto_region 12 with fail
      have hX4 := hX3
      have hY4 := hY3
      have hZ4 := hZ3
      have hgo4 : RFOk W3 ⟨⟨f.name, fb, f.safe⟩, ag, cg⟩ := ⟨hgo3, hfbl⟩
      have hb4 := hb3
      clear hX3 hY3 hZ3 hgo3 hb3 d0 d1 d2 e0 e1 e2 x0 x1 x2 y0 y1 y2
      have h4 := H0.out.kept hb4
      obtain ⟨d0, d1, d2, e0, e1, e2⟩ := hY4.cells
      obtain ⟨x0, x1, x2, y0, y1, y2⟩ := hX4.cells
      go_upto_region 13 with (go_at_call 44; (with_reducible refine (rSet_any a cap l ⟨⟨f.name, fb, f.safe⟩, ag, cg⟩ _ (by omega) hlc h4 hgo4).mono ?_); rintro e w4 ⟨a4, c4, rfl, hin4, hc4, hb5⟩; have hY3 := hY4.below hb5; have hZ3 := hZ4.below hb5; have hb3 := below2 hb4 hb5; clear d0 d1 d2 e0 e1 e2 x0 x1 x2 y0 y1 y2 hY4 hZ4 hb4; obtain ⟨d0, d1, d2, e0, e1, e2⟩ := hY3.cells)
      refine wp_name (fun W5 hW5 => ?_)
      have hY5 : B3 W5 w2.heap.size 29 (.slice a4 (putRF l ⟨⟨f.name, fb, f.safe⟩, ag, cg⟩).length c4) (.int .i64 ((arm - 1 : Nat) : Int)) (.bool false) := by rw [hW5.out]; exact hY3.set0 _
      have hZ5 : B3 W5 (w.heap.size + 1) 29 (.slice none 0 0) (.int .i64 0) (.bool false) := by rw [hW5.out]; exact hZ3.other _ (by simp only; omega)
      have hb5 : Below w.heap.size w W5 := by rw [hW5.out]; exact below_set hb3 (by simp only; omega) _
      have hin5 : RFsIn W5 a4 (putRF l ⟨⟨f.name, fb, f.safe⟩, ag, cg⟩) := by rw [hW5.out]; exact hin4.fr (T := isR w2.heap.size) (fr_set _) (fun k hk => by subst hk; exact ⟨hY3.noByte ⟨trivial, trivial, trivial⟩, hY3.noStr ⟨trivial, trivial, trivial⟩⟩)
      clear hW5 hY3 hZ3 hb3 hin4 d0 d1 d2 e0 e1 e2
      obtain ⟨d0, d1, d2, e0, e1, e2⟩ := hY5.cells
      go_wp2_with (refine wpList_store_row rfl 29 _ _ rfl (w.heap.size + 1) #[.slice a4 (putRF l ⟨⟨f.name, fb, f.safe⟩, ag, cg⟩).length c4, .int .i64 ((arm - 1 : Nat) : Int), .bool false] rfl rfl 29 _ hZ5 (by kernel_rfl) rfl (by kernel_rfl) ?_)
      refine retCT 6 7 29 29 (w.heap.size + 1) _ _ _ rfl rfl rfl (hZ5.row _ _ _) Try.underlying29 rfl (by kernel_rfl) rfl ?_
      refine ⟨a4, _, c4, rfl, ?_, hc4, (by rw [HM.out]; exact rfsOf_putRF _ _), below_row hb5 (Nat.le_succ _) _⟩
      exact hin5.fr (T := isR (w.heap.size + 1)) (fr_row _ _ _) (fun k hk => by subst hk; exact ⟨hZ5.noByte ⟨trivial, trivial, trivial⟩, hZ5.noStr ⟨trivial, trivial, trivial⟩⟩)
end Go.Proofs.Ytbkelbdeodbhcaa
