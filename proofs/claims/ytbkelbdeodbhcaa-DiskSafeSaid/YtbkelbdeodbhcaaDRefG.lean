/- The reference's disk: Append. Conditions: as in the text. -/
import Derived.Test.YtbkelbdeodbhcaaDRefF
import Derived.Test.YtbkelbdeodbhcaaDiskL
set_option linter.unusedSimpArgs false
set_option linter.unusedVariables false
set_option linter.unnecessarySimpa false
namespace Go.Proofs.Ytbkelbdeodbhcaa
open Go.RowKit

theorem BytesIn.cells {w : World} {a : Option Addr} {l : Bytes} (h : BytesIn w a l) : CellsIn w a (byteVals l) := by
  rcases h with rfl | ⟨A, off, h1, h2⟩
  · exact Or.inl rfl
  · refine Or.inr ⟨A, off, h1, fun j v hv => ?_⟩
    have := h2.news j v hv
    rwa [Addr.add_mid] at this
theorem own_bytesIn {w : World} {base : Nat} {v : Value} {n : Nat} {l : Bytes} (h : w.ownsRow base 5 1 v n (byteVals l)) : ∃ a cap, v = .slice a l.length cap ∧ BytesIn w a l ∧ l.length ≤ cap := by
  have hn : n = l.length := by have := h.1; rw [byteVals_length] at this; omega
  subst hn
  obtain ⟨a, cap, h1, h2, h3⟩ := own_cellsIn h
  refine ⟨a, cap, h1, ?_, h3⟩
  rcases h2 with h2 | ⟨A, off, h2, h4⟩
  · left
    have := congrArg List.length h2
    rw [byteVals_length] at this
    exact List.length_eq_zero_iff.1 this
  · exact Or.inr ⟨A, off, h2, fun j hj => h4 j _ (by simp [byteVals, hj])⟩
theorem getE_len {l : List DF} {s : ByteArray} {f : DF} {c : Int} (hE : getE l s = (f, c)) (hlb : ∀ f, getF l s = some f → f.b.length ≤ 16777216) : f.b.length ≤ 16777216 := by
  unfold getE at hE
  by_cases hok : nameOk s = true
  · rw [if_pos hok] at hE
    cases hg : getF l s with
    | none => rw [hg] at hE; simp only [Prod.mk.injEq] at hE; rw [← hE.1]; simp
    | some f' => rw [hg] at hE; simp only [Prod.mk.injEq] at hE; rw [← hE.1]; exact hlb f' hg
  · rw [if_neg hok] at hE; simp only [Prod.mk.injEq] at hE; rw [← hE.1]; simp
theorem getE_codes {l : List DF} {s : ByteArray} {f : DF} {c : Int} (hE : getE l s = (f, c)) : c = 0 ∨ c = 1 ∨ c = 10 := by
  unfold getE at hE
  by_cases hok : nameOk s = true
  · rw [if_pos hok] at hE
    cases hg : getF l s with
    | none => rw [hg] at hE; simp only [Prod.mk.injEq] at hE; omega
    | some f' => rw [hg] at hE; simp only [Prod.mk.injEq] at hE; omega
  · rw [if_neg hok] at hE; simp only [Prod.mk.injEq] at hE; omega
theorem append_form {l : List DF} {arm : Nat} {down : Bool} {s : ByteArray} {f : DF} {b : Bytes} (hE : getE l s = (f, 1)) : DS.append ⟨l, arm, down⟩ s b = (⟨l, arm, down⟩, 1) := by
  unfold getE at hE
  unfold DS.append
  by_cases hok : nameOk s = true
  · rw [if_pos hok] at hE
    cases hg : getF l s with
    | none => rw [hg] at hE; simp at hE
    | some f' => rw [hg] at hE; simp at hE
  · rw [if_neg hok]
theorem append_full {l : List DF} {arm : Nat} {down : Bool} {s : ByteArray} {f : DF} {b : Bytes} (hE : getE l s = (f, 10)) (h8 : 8 ≤ l.length) : DS.append ⟨l, arm, down⟩ s b = (⟨l, arm, down⟩, 9) := by
  unfold getE at hE
  unfold DS.append
  by_cases hok : nameOk s = true
  · rw [if_pos hok] at hE ⊢
    cases hg : getF l s with
    | none => simp only [if_pos h8]
    | some f' => rw [hg] at hE; simp at hE
  · rw [if_neg hok] at hE; simp at hE
theorem append_go {l : List DF} {arm : Nat} {down : Bool} {s : ByteArray} {f : DF} {c : Int} {b : Bytes} (hE : getE l s = (f, c)) (hc : (c = 10 ∧ l.length < 8) ∨ c = 0) :
    DS.append ⟨l, arm, down⟩ s b = if 16777216 < f.b.length + b.length then (⟨l, arm, down⟩, 9) else if chg arm down then (⟨l, arm - 1, true⟩, 12) else (⟨putF l { f with b := f.b ++ b }, arm - 1, false⟩, 0) := by
  unfold getE at hE
  unfold DS.append
  have hch : ∀ (x y : DS × Int), (if (DS.change ⟨l, arm, down⟩).down then ((DS.change ⟨l, arm, down⟩), (12 : Int)) else x) = if chg arm down then (⟨l, arm - 1, true⟩, 12) else x := fun x y => by
    unfold DS.change chg
    cases h : (down || decide (arm = 1)) <;> simp [h]
  have hch2 : ∀ (x : List DF), chg arm down = false → ({ DS.change ⟨l, arm, down⟩ with f := x } : DS) = ⟨x, arm - 1, false⟩ := fun x h => by
    unfold DS.change; unfold chg at h; simp [h]
  have key : ∀ (x : List DF), (if chg arm down then ((⟨l, arm - 1, true⟩ : DS), (12 : Int)) else ({ DS.change ⟨l, arm, down⟩ with f := x }, 0)) = if chg arm down then (⟨l, arm - 1, true⟩, 12) else (⟨x, arm - 1, false⟩, 0) := fun x => by
    by_cases h : chg arm down = true
    · rw [if_pos h, if_pos h]
    · rw [if_neg h, if_neg h, hch2 x (Bool.eq_false_iff.2 h)]
  by_cases hok : nameOk s = true
  · rw [if_pos hok] at hE ⊢
    cases hg : getF l s with
    | none =>
      rw [hg] at hE
      simp only [Prod.mk.injEq] at hE
      obtain ⟨rfl, rfl⟩ := hE
      have h8 : ¬ 8 ≤ l.length := by omega
      simp only [if_neg h8, List.length_nil, Nat.zero_add, List.nil_append]
      rw [hch _ (⟨[], 0, false⟩, 0), key]
    | some f' =>
      rw [hg] at hE
      simp only [Prod.mk.injEq] at hE
      obtain ⟨rfl, rfl⟩ := hE
      simp only
      rw [hch _ (⟨[], 0, false⟩, 0), key]
  · rw [if_neg hok] at hE
    simp only [Prod.mk.injEq] at hE
    omega

set_option maxRecDepth 100000 in
set_option maxHeartbeats 1000000 in
theorem rAppend_any (a a2 : Option Addr) (cap cap2 arm : Nat) (down : Bool) (l : List RF) (s : ByteArray) (b : Bytes) (w : World) (hl : l.length ≤ 16777216) (hlc : l.length ≤ cap) (ha : arm ≤ 1048576) (hs : s.size ≤ maxLen)
    (hlb : ∀ f, getF (rfsOf l) s = some f → f.b.length ≤ 16777216) (hbl : b.length ≤ 1073741824) (h : RFsIn w a l) (hin : BytesIn w a2 b) :
    Calls Try.prog 27 #[rdkVal a l.length cap arm down, .string s, .slice a2 b.length cap2] w (RetRD (DS.append ⟨rfsOf l, arm, down⟩ s b).1 (DS.append ⟨rfsOf l, arm, down⟩ s b).2 w) := by
  obtain ⟨f, c, hE⟩ : ∃ f c, getE (rfsOf l) s = (f, c) := ⟨_, _, rfl⟩
  have HG := Lib.hid (fun (X : World) (h : RFsIn X a l) => rGet_to (cap := cap) hE (by omega) hs h)
  have hfl : f.b.length ≤ 16777216 := getE_len hE hlb
  have hcs := getE_codes hE
  clear hlb
  by_cases hc1 : c = 1
  case pos =>
    subst hc1
    rw [append_form hE]
    clear hE
    go_enter Try.func27, Try.ntmps27
    go_upto_region 1 with fail
    refine wp_name (fun W hW => ?_)
    have hb0 : Below w.heap.size w W := by rw [hW.out]; go_grown
    have hD : B3 W w.heap.size 29 (.slice a l.length cap) (.int .i64 arm) (.bool down) := by
      rw [hW.out]; exact (Below.refl (w.heap.size + 1) _).alloc (by simp) _ |>.block _ (by simp) |>.trans (heap_last0 w _)
    have hZ : B3 W (w.heap.size + 1) 29 (.slice none 0 0) (.int .i64 0) (.bool false) := by rw [hW.out]; exact heap_last1 w _ _
    have H0 := Lib.hid h
    replace h := h.kept hb0
    clear hW
    obtain ⟨d0, d1, d2, e0, e1, e2⟩ := hD.cells
    go_upto_region 2 with (go_at_call 42; (with_reducible refine (HG.out _ h).mono ?_); rintro e w1 ⟨ag, cg, rfl, hgo, hb1⟩)
    refine wp_name (fun W1 hW1 => ?_)
    have hX : B3 W1 w1.heap.size 46 (.string f.name) (.slice ag f.b.length cg) (.int .i64 f.safe) := by rw [hW1.out]; exact heap_last0 w1 _
    have hbw : Below W.heap.size W W1 := by rw [hW1.out]; exact hb1.alloc hb1.size _
    have hb2 : Below w1.heap.size w1 W1 := by rw [hW1.out]; exact (Below.refl _ _).alloc (Nat.le_refl _) _
    have hz1 : w.heap.size + 1 < w1.heap.size := Nat.lt_of_lt_of_le hZ.lt hb1.size
    replace hgo := hgo.kept hb2
    replace hb0 := below2 hb0 hbw
    replace hD := hD.below hbw
    replace hZ := hZ.below hbw
    replace h := h.kept hbw
    clear hW1 hb1 hb2 hbw d0 d1 d2 e0 e1 e2
    obtain ⟨d0, d1, d2, e0, e1, e2⟩ := hD.cells
    obtain ⟨x0, x1, x2, y0, y1, y2⟩ := hX.cells
    go_wp2_with (refine wpList_store_row rfl 29 _ _ rfl (w.heap.size + 1) #[.slice a l.length cap, .int .i64 arm, .bool down] rfl rfl 29 _ hZ (by kernel_rfl) rfl (by kernel_rfl) ?_)
    refine retCT 6 7 29 29 (w.heap.size + 1) _ _ _ rfl rfl rfl (hZ.row _ _ _) Try.underlying29 rfl (by kernel_rfl) rfl ?_
    exact ⟨a, l, cap, rfl, H0.out.kept (below_row hb0 (Nat.le_succ _) _), hlc, rfl, below_row hb0 (Nat.le_succ _) _⟩
  case neg =>
  by_cases hc8 : c = 10 ∧ 8 ≤ l.length
  case pos =>
    obtain ⟨rfl, h8⟩ := hc8
    rw [append_full hE (by rw [List.length_map]; exact h8)]
    have h8i : (8 : Int) ≤ (l.length : Int) := by omega
    clear hE
    go_enter Try.func27, Try.ntmps27
    go_upto_region 1 with fail
    refine wp_name (fun W hW => ?_)
    have hb0 : Below w.heap.size w W := by rw [hW.out]; go_grown
    have hD : B3 W w.heap.size 29 (.slice a l.length cap) (.int .i64 arm) (.bool down) := by
      rw [hW.out]; exact (Below.refl (w.heap.size + 1) _).alloc (by simp) _ |>.block _ (by simp) |>.trans (heap_last0 w _)
    have hZ : B3 W (w.heap.size + 1) 29 (.slice none 0 0) (.int .i64 0) (.bool false) := by rw [hW.out]; exact heap_last1 w _ _
    have H0 := Lib.hid h
    replace h := h.kept hb0
    clear hW
    obtain ⟨d0, d1, d2, e0, e1, e2⟩ := hD.cells
    go_upto_region 2 with (go_at_call 42; (with_reducible refine (HG.out _ h).mono ?_); rintro e w1 ⟨ag, cg, rfl, hgo, hb1⟩)
    refine wp_name (fun W1 hW1 => ?_)
    have hX : B3 W1 w1.heap.size 46 (.string f.name) (.slice ag f.b.length cg) (.int .i64 f.safe) := by rw [hW1.out]; exact heap_last0 w1 _
    have hbw : Below W.heap.size W W1 := by rw [hW1.out]; exact hb1.alloc hb1.size _
    have hb2 : Below w1.heap.size w1 W1 := by rw [hW1.out]; exact (Below.refl _ _).alloc (Nat.le_refl _) _
    have hz1 : w.heap.size + 1 < w1.heap.size := Nat.lt_of_lt_of_le hZ.lt hb1.size
    replace hgo := hgo.kept hb2
    replace hb0 := below2 hb0 hbw
    replace hD := hD.below hbw
    replace hZ := hZ.below hbw
    replace h := h.kept hbw
    clear hW1 hb1 hb2 hbw d0 d1 d2 e0 e1 e2
    obtain ⟨d0, d1, d2, e0, e1, e2⟩ := hD.cells
    obtain ⟨x0, x1, x2, y0, y1, y2⟩ := hX.cells
    go_wp2_with (refine wpList_store_row rfl 29 _ _ rfl (w.heap.size + 1) #[.slice a l.length cap, .int .i64 arm, .bool down] rfl rfl 29 _ hZ (by kernel_rfl) rfl (by kernel_rfl) ?_)
    refine retCT 6 7 29 29 (w.heap.size + 1) _ _ _ rfl rfl rfl (hZ.row _ _ _) Try.underlying29 rfl (by kernel_rfl) rfl ?_
    exact ⟨a, l, cap, rfl, H0.out.kept (below_row hb0 (Nat.le_succ _) _), hlc, rfl, below_row hb0 (Nat.le_succ _) _⟩
  case neg =>
  have hgo0 : (c = 10 ∧ (rfsOf l).length < 8) ∨ c = 0 := by
    rw [List.length_map]
    by_cases h10 : c = 10
    · exact Or.inl ⟨h10, by omega⟩
    · exact Or.inr (by omega)
  rw [append_go hE hgo0]
  have hcase : (c = 10 ∧ l.length < 8) ∨ c = 0 := by rw [List.length_map] at hgo0; exact hgo0
  clear hgo0 hc8 hc1 hE hcs
  by_cases hbig : 16777216 < f.b.length + b.length
  case pos =>
    rw [if_pos hbig]
    have hbi : (16777216 : Int) < (f.b.length : Int) + (b.length : Int) := by omega
    rcases hcase with ⟨rfl, h8⟩ | rfl
    case' inl => have h8i : ¬ ((8 : Int) ≤ (l.length : Int)) := by omega
    all_goals
      go_enter Try.func27, Try.ntmps27
      go_upto_region 1 with fail
      refine wp_name (fun W hW => ?_)
      have hb0 : Below w.heap.size w W := by rw [hW.out]; go_grown
      have hD : B3 W w.heap.size 29 (.slice a l.length cap) (.int .i64 arm) (.bool down) := by
        rw [hW.out]; exact (Below.refl (w.heap.size + 1) _).alloc (by simp) _ |>.block _ (by simp) |>.trans (heap_last0 w _)
      have hZ : B3 W (w.heap.size + 1) 29 (.slice none 0 0) (.int .i64 0) (.bool false) := by rw [hW.out]; exact heap_last1 w _ _
      have H0 := Lib.hid h
      replace h := h.kept hb0
      clear hW
      obtain ⟨d0, d1, d2, e0, e1, e2⟩ := hD.cells
      go_upto_region 4 with (go_at_call 42; (with_reducible refine (HG.out _ h).mono ?_); rintro e w1 ⟨ag, cg, rfl, hgo, hb1⟩)
      refine wp_name (fun W1 hW1 => ?_)
      have hX : B3 W1 w1.heap.size 46 (.string f.name) (.slice ag f.b.length cg) (.int .i64 f.safe) := by rw [hW1.out]; exact heap_last0 w1 _
      have hbw : Below W.heap.size W W1 := by rw [hW1.out]; exact hb1.alloc hb1.size _
      have hb2 : Below w1.heap.size w1 W1 := by rw [hW1.out]; exact (Below.refl _ _).alloc (Nat.le_refl _) _
      have hz1 : w.heap.size + 1 < w1.heap.size := Nat.lt_of_lt_of_le hZ.lt hb1.size
      replace hgo := hgo.kept hb2
      replace hb0 := below2 hb0 hbw
      replace hD := hD.below hbw
      replace hZ := hZ.below hbw
      replace h := h.kept hbw
      clear hW1 hb1 hb2 hbw d0 d1 d2 e0 e1 e2
      obtain ⟨d0, d1, d2, e0, e1, e2⟩ := hD.cells
      obtain ⟨x0, x1, x2, y0, y1, y2⟩ := hX.cells
      go_wp2_with (refine wpList_store_row rfl 29 _ _ rfl (w.heap.size + 1) #[.slice a l.length cap, .int .i64 arm, .bool down] rfl rfl 29 _ hZ (by kernel_rfl) rfl (by kernel_rfl) ?_)
      refine retCT 6 7 29 29 (w.heap.size + 1) _ _ _ rfl rfl rfl (hZ.row _ _ _) Try.underlying29 rfl (by kernel_rfl) rfl ?_
      exact ⟨a, l, cap, rfl, H0.out.kept (below_row hb0 (Nat.le_succ _) _), hlc, rfl, below_row hb0 (Nat.le_succ _) _⟩
  case neg =>
  rw [if_neg hbig]
  have hbi : ¬ ((16777216 : Int) < (f.b.length : Int) + (b.length : Int)) := by omega
  by_cases hch : chg arm down = true
  case pos =>
    rw [if_pos hch]
    have HC := Lib.hid hch
    clear hch
    rcases hcase with ⟨rfl, h8⟩ | rfl
    case' inl => have h8i : ¬ ((8 : Int) ≤ (l.length : Int)) := by omega
    all_goals
      go_enter Try.func27, Try.ntmps27
      go_upto_region 1 with fail
      refine wp_name (fun W hW => ?_)
      have hb0 : Below w.heap.size w W := by rw [hW.out]; go_grown
      have hD : B3 W w.heap.size 29 (.slice a l.length cap) (.int .i64 arm) (.bool down) := by
        rw [hW.out]; exact (Below.refl (w.heap.size + 1) _).alloc (by simp) _ |>.block _ (by simp) |>.trans (heap_last0 w _)
      have hZ : B3 W (w.heap.size + 1) 29 (.slice none 0 0) (.int .i64 0) (.bool false) := by rw [hW.out]; exact heap_last1 w _ _
      have H0 := Lib.hid h
      replace h := h.kept hb0
      clear hW
      obtain ⟨d0, d1, d2, e0, e1, e2⟩ := hD.cells
      go_upto_region 4 with (go_at_call 42; (with_reducible refine (HG.out _ h).mono ?_); rintro e w1 ⟨ag, cg, rfl, hgo, hb1⟩)
      refine wp_name (fun W1 hW1 => ?_)
      have hX : B3 W1 w1.heap.size 46 (.string f.name) (.slice ag f.b.length cg) (.int .i64 f.safe) := by rw [hW1.out]; exact heap_last0 w1 _
      have hbw : Below W.heap.size W W1 := by rw [hW1.out]; exact hb1.alloc hb1.size _
      have hb2 : Below w1.heap.size w1 W1 := by rw [hW1.out]; exact (Below.refl _ _).alloc (Nat.le_refl _) _
      have hz1 : w.heap.size + 1 < w1.heap.size := Nat.lt_of_lt_of_le hZ.lt hb1.size
      replace hgo := hgo.kept hb2
      replace hb0 := below2 hb0 hbw
      replace hD := hD.below hbw
      replace hZ := hZ.below hbw
      replace h := h.kept hbw
      clear hW1 hb1 hb2 hbw d0 d1 d2 e0 e1 e2
      obtain ⟨d0, d1, d2, e0, e1, e2⟩ := hD.cells
      obtain ⟨x0, x1, x2, y0, y1, y2⟩ := hX.cells
      go_upto_region 8 with fail
      clear x0 x1 x2 y0 y1 y2
      go_upto_region 9 with (go_at_call 43; (with_reducible refine (rChange_any _ _ _ _ _ _ ha).mono ?_); rw [HC.out]; rintro e w2 ⟨rfl, hb1⟩)
      refine wp_name (fun W2 hW2 => ?_)
      have hY : B3 W2 w2.heap.size 29 (.slice a l.length cap) (.int .i64 ((arm - 1 : Nat) : Int)) (.bool true) := by rw [hW2.out]; exact heap_last0 w2 _
      have hbw : Below W1.heap.size W1 W2 := by rw [hW2.out]; exact hb1.alloc hb1.size _
      have hz2 : w1.heap.size < w2.heap.size := Nat.lt_of_lt_of_le hX.lt hb1.size
      replace hgo := hgo.kept hbw
      replace hb0 := below2 hb0 hbw
      replace hD := hD.below hbw
      replace hZ := hZ.below hbw
      replace hX := hX.below hbw
      replace h := h.kept hbw
      clear hW2 hb1 hbw d0 d1 d2 e0 e1 e2 hD
      obtain ⟨d0, d1, d2, e0, e1, e2⟩ := hY.cells
      obtain ⟨x0, x1, x2, y0, y1, y2⟩ := hX.cells
      go_wp2_with (refine wpList_store_row rfl 29 _ _ rfl (w.heap.size + 1) #[.slice a l.length cap, .int .i64 ((arm - 1 : Nat) : Int), .bool true] rfl rfl 29 _ hZ (by kernel_rfl) rfl (by kernel_rfl) ?_)
      refine retCT 6 7 29 29 (w.heap.size + 1) _ _ _ rfl rfl rfl (hZ.row _ _ _) Try.underlying29 rfl (by kernel_rfl) rfl ?_
      exact ⟨a, l, cap, rfl, H0.out.kept (below_row hb0 (Nat.le_succ _) _), hlc, rfl, below_row hb0 (Nat.le_succ _) _⟩
  case neg =>
    rw [if_neg hch]
    have HC := Lib.hid (Bool.eq_false_iff.2 hch)
    clear hch
    obtain ⟨iu, hiu, hzu0, hzu1, hzu2⟩ := info_parts Try.infoByte
    obtain ⟨fb, hfb⟩ : ∃ fb, f.b ++ b = fb := ⟨_, rfl⟩
    rw [hfb]
    have HFB := Lib.hid hfb
    clear hfb
    have H1 := Lib.hid hin
    rcases hcase with ⟨rfl, h8⟩ | rfl
    case' inl => have h8i : ¬ ((8 : Int) ≤ (l.length : Int)) := by omega
    all_goals
      go_enter Try.func27, Try.ntmps27
      go_upto_region 1 with fail
      refine wp_name (fun W hW => ?_)
      have hb0 : Below w.heap.size w W := by rw [hW.out]; go_grown
      have hD : B3 W w.heap.size 29 (.slice a l.length cap) (.int .i64 arm) (.bool down) := by
        rw [hW.out]; exact (Below.refl (w.heap.size + 1) _).alloc (by simp) _ |>.block _ (by simp) |>.trans (heap_last0 w _)
      have hZ : B3 W (w.heap.size + 1) 29 (.slice none 0 0) (.int .i64 0) (.bool false) := by rw [hW.out]; exact heap_last1 w _ _
      have H0 := Lib.hid h
      replace h := h.kept hb0
      clear hW
      obtain ⟨d0, d1, d2, e0, e1, e2⟩ := hD.cells
      go_upto_region 4 with (go_at_call 42; (with_reducible refine (HG.out _ h).mono ?_); rintro e w1 ⟨ag, cg, rfl, hgo, hb1⟩)
      refine wp_name (fun W1 hW1 => ?_)
      have hX : B3 W1 w1.heap.size 46 (.string f.name) (.slice ag f.b.length cg) (.int .i64 f.safe) := by rw [hW1.out]; exact heap_last0 w1 _
      have hbw : Below W.heap.size W W1 := by rw [hW1.out]; exact hb1.alloc hb1.size _
      have hb2 : Below w1.heap.size w1 W1 := by rw [hW1.out]; exact (Below.refl _ _).alloc (Nat.le_refl _) _
      have hz1 : w.heap.size + 1 < w1.heap.size := Nat.lt_of_lt_of_le hZ.lt hb1.size
      replace hgo := hgo.kept hb2
      replace hb0 := below2 hb0 hbw
      replace hD := hD.below hbw
      replace hZ := hZ.below hbw
      replace h := h.kept hbw
      clear hW1 hb1 hb2 hbw d0 d1 d2 e0 e1 e2
      obtain ⟨d0, d1, d2, e0, e1, e2⟩ := hD.cells
      obtain ⟨x0, x1, x2, y0, y1, y2⟩ := hX.cells
      go_upto_region 8 with fail
      clear x0 x1 x2 y0 y1 y2
      go_upto_region 9 with (go_at_call 43; (with_reducible refine (rChange_any _ _ _ _ _ _ ha).mono ?_); rw [HC.out]; rintro e w2 ⟨rfl, hb1⟩)
      refine wp_name (fun W2 hW2 => ?_)
      have hY : B3 W2 w2.heap.size 29 (.slice a l.length cap) (.int .i64 ((arm - 1 : Nat) : Int)) (.bool false) := by rw [hW2.out]; exact heap_last0 w2 _
      have hbw : Below W1.heap.size W1 W2 := by rw [hW2.out]; exact hb1.alloc hb1.size _
      have hz2 : w1.heap.size < w2.heap.size := Nat.lt_of_lt_of_le hX.lt hb1.size
      replace hgo := hgo.kept hbw
      replace hb0 := below2 hb0 hbw
      replace hD := hD.below hbw
      replace hZ := hZ.below hbw
      replace hX := hX.below hbw
      replace h := h.kept hbw
      clear hW2 hb1 hbw d0 d1 d2 e0 e1 e2 hD
      obtain ⟨d0, d1, d2, e0, e1, e2⟩ := hY.cells
      obtain ⟨x0, x1, x2, y0, y1, y2⟩ := hX.cells
      have hbin := H1.out.kept hb0
      have hfin := hgo.bytes
      have hown0 : (W2.alloc (Obj.cells #[] 5)).ownsRow W2.heap.size 5 1 (.slice (some ⟨W2.heap.size, 0, none⟩) 0 0) 0 [] := World.ownsRow_made _ _ _ (Nat.le_refl _) (by decide) rfl
      have x1a := fun o => kept ((Below.refl _ W2).alloc (Nat.le_refl _) o) x1
      go_upto_region 12 with (first
        | (at_builtin; go_loud (refine wpList_append_cells rfl (.tmp 48) (.tmp 50) 32 rfl W2.heap.size 5 iu _ 1 1 Try.underlying32 hiu hzu0 hzu1 hzu2 rfl (by decide) _ 0 [] rfl hown0 ag f.b.length cg (byteVals f.b) rfl (by rw [byteVals_length]; omega) (hfin.kept ((Below.refl _ _).alloc (Nat.le_refl _) _)).cells (byteVals_one _) (by unfold maxLen; omega) (by omega) (by simp) ?_); intro v5 w5 hown5 hg5; have hq5 : Below W2.heap.size W2 w5 := (((Below.refl _ _).alloc (Nat.le_refl _) _).grown hg5 (by simp) (fun k hk => (hown0.lt k hk).1)))
        | (at_builtin; go_loud (refine wpList_append_cells rfl (.tmp 51) (.tmp 52) 32 rfl W2.heap.size 5 iu _ 1 1 Try.underlying32 hiu hzu0 hzu1 hzu2 rfl (by decide) _ (0 + f.b.length) _ rfl hown5 a2 b.length cap2 (byteVals b) rfl (by rw [byteVals_length]; omega) (hbin.kept hq5).cells (byteVals_one _) (by unfold maxLen; omega) (by omega) hq5.size ?_); intro v6 w6 hown6 hg6; have hq6 : Below W2.heap.size W2 w6 := hq5.grown hg6 hq5.size (fun k hk => (hown5.lt k hk).1); replace hX := hX.below hq6; replace hY := hY.below hq6; replace hZ := hZ.below hq6; replace hb0 := below2 hb0 hq6; clear d0 d1 d2 e0 e1 e2 x0 x1 x2 y0 y1 y2 x1a; obtain ⟨x0, x1, x2, y0, y1, y2⟩ := hX.cells; have hown7 : w6.ownsRow W2.heap.size 5 1 v6 _ (byteVals fb) := (by rw [← HFB.out, byteVals_append]; exact hown6); obtain ⟨a6, c6, rfl, hb6, hc6⟩ := own_bytesIn hown7; clear hown7))
      refine wp_name (fun W3 hW3 => ?_)
      have hX4 : B3 W3 w1.heap.size 46 (.string f.name) (.slice a6 fb.length c6) (.int .i64 f.safe) := by rw [hW3.out]; exact hX.set1 _
      have hY4 : B3 W3 w2.heap.size 29 (.slice a l.length cap) (.int .i64 ((arm - 1 : Nat) : Int)) (.bool false) := by rw [hW3.out]; exact hY.other _ (Nat.ne_of_lt hz2)
      have hZ4 : B3 W3 (w.heap.size + 1) 29 (.slice none 0 0) (.int .i64 0) (.bool false) := by rw [hW3.out]; exact hZ.other _ (Nat.ne_of_gt hz1)
      have hgo4 : RFOk W3 ⟨⟨f.name, fb, f.safe⟩, a6, c6⟩ := ⟨by rw [hW3.out]; exact hb6.fr (S := isR w1.heap.size) (fr_set _) (fun k hk => by subst hk; exact hX.noByte ⟨trivial, trivial, trivial⟩), hc6⟩
      have hb4 : Below w.heap.size w W3 := by rw [hW3.out]; exact below_set hb0 (by simp only; omega) _
      clear hW3 hX hY hZ hgo hb0 h x0 x1 x2 y0 y1 y2 hown6 hg6 hown5 hg5 hown0 hbin hfin hq5 hq6 hb6
      have h4 := H0.out.kept hb4
      obtain ⟨d0, d1, d2, e0, e1, e2⟩ := hY4.cells
      obtain ⟨x0, x1, x2, y0, y1, y2⟩ := hX4.cells
      go_upto_region 13 with (go_at_call 44; (with_reducible refine (rSet_any a cap l ⟨⟨f.name, fb, f.safe⟩, a6, c6⟩ _ (by omega) hlc h4 hgo4).mono ?_); rintro e w4 ⟨a4, c4, rfl, hin4, hc4, hb5⟩; have hY3 := hY4.below hb5; have hZ3 := hZ4.below hb5; have hb3 := below2 hb4 hb5; clear d0 d1 d2 e0 e1 e2 x0 x1 x2 y0 y1 y2 hY4 hZ4 hb4; obtain ⟨d0, d1, d2, e0, e1, e2⟩ := hY3.cells)
      refine wp_name (fun W5 hW5 => ?_)
      have hY5 : B3 W5 w2.heap.size 29 (.slice a4 (putRF l ⟨⟨f.name, fb, f.safe⟩, a6, c6⟩).length c4) (.int .i64 ((arm - 1 : Nat) : Int)) (.bool false) := by rw [hW5.out]; exact hY3.set0 _
      have hZ5 : B3 W5 (w.heap.size + 1) 29 (.slice none 0 0) (.int .i64 0) (.bool false) := by rw [hW5.out]; exact hZ3.other _ (by simp only; omega)
      have hb5 : Below w.heap.size w W5 := by rw [hW5.out]; exact below_set hb3 (by simp only; omega) _
      have hin5 : RFsIn W5 a4 (putRF l ⟨⟨f.name, fb, f.safe⟩, a6, c6⟩) := by rw [hW5.out]; exact hin4.fr (T := isR w2.heap.size) (fr_set _) (fun k hk => by subst hk; exact ⟨hY3.noByte ⟨trivial, trivial, trivial⟩, hY3.noStr ⟨trivial, trivial, trivial⟩⟩)
      clear hW5 hY3 hZ3 hb3 hin4 d0 d1 d2 e0 e1 e2
      obtain ⟨d0, d1, d2, e0, e1, e2⟩ := hY5.cells
      go_wp2_with (refine wpList_store_row rfl 29 _ _ rfl (w.heap.size + 1) #[.slice a4 (putRF l ⟨⟨f.name, fb, f.safe⟩, a6, c6⟩).length c4, .int .i64 ((arm - 1 : Nat) : Int), .bool false] rfl rfl 29 _ hZ5 (by kernel_rfl) rfl (by kernel_rfl) ?_)
      refine retCT 6 7 29 29 (w.heap.size + 1) _ _ _ rfl rfl rfl (hZ5.row _ _ _) Try.underlying29 rfl (by kernel_rfl) rfl ?_
      refine ⟨a4, _, c4, rfl, ?_, hc4, rfsOf_putRF _ _, below_row hb5 (Nat.le_succ _) _⟩
      exact hin5.fr (T := isR (w.heap.size + 1)) (fr_row _ _ _) (fun k hk => by subst hk; exact ⟨hZ5.noByte ⟨trivial, trivial, trivial⟩, hZ5.noStr ⟨trivial, trivial, trivial⟩⟩)
end Go.Proofs.Ytbkelbdeodbhcaa
