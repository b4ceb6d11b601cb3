/- The references on lists of items: Same, Without, Domain, Find, Near. Conditions: as in the text. -/
import Derived.Test.YtohmadchgacafaaIxO
set_option linter.unusedSimpArgs false
set_option linter.unusedVariables false
set_option linter.unnecessarySimpa false
namespace Go.Proofs.Ytohmadchgacafaa
open Go.RowKit
theorem it_iff (a b : It) : a = b ↔ a.key = b.key ∧ a.ck = b.ck := by cases a; cases b; simp
/-! ### does a name end with a domain -/
theorem split_app (b : Bytes) : ∀ pre : Bytes, splitB 46 (pre ++ 46 :: b) = splitB 46 pre ++ splitB 46 b
 | [] => by
   show splitB 46 (46 :: b) = splitB 46 [] ++ splitB 46 b
   rw [splitB]
   simp [splitB]
 | x :: pre => by
   have ih := split_app b pre
   have hne := splitB_ne 46 pre
   rw [List.cons_append, splitB, splitB, ih]
   split
   ·rfl
   ·cases hs : splitB 46 pre with
    | nil => exact absurd hs hne
    | cons h t => rfl
/-! ### Same -/
set_option maxRecDepth 100000 in
set_option maxHeartbeats 2000000 in
theorem rSameI_any (a b : Option Addr) (ca cb : Nat) (l m : List It) (w : World) (hl : l.length ≤ 1073741824) (hm : m.length ≤ 1073741824) (ha : ItsIn w a l) (hb : ItsIn w b m) :
 Calls Try.prog 10 #[.slice a l.length ca, .slice b m.length cb] w fun e w' => e = .returned (.bool (decide (l = m))) ∧ Below w.heap.size w w' := by
 by_cases hlen : l.length = m.length
 ·have hb1 : ((l.length : Nat) != (m.length : Nat)) = false := by rw [bne_eq_false_iff_eq]; exact hlen
  have hb2 : ((l.length : Int) != (m.length : Int)) = false := by rw [bne_eq_false_iff_eq]; omega
  have hg := noGuardItem
  have HL := Lib.hid hlen
  clear hlen
  go_enter Try.func10, Try.ntmps10
  go_wp2
  go_loopw [5] (fun i wr => ∃ k : Nat, k ≤ l.length ∧ i = .int .i64 k ∧ l.take k = m.take k ∧ Below w.heap.size w wr) (fun i _ => l.length - (intOf i).toNat)
  case atStart => exact ⟨0, Nat.zero_le _, rfl, rfl, by go_grown⟩
  case round =>
   obtain ⟨k, hk, rfl, hpre, hbw⟩ := hrel
   have HP := Lib.hid hpre
   clear hpre
   by_cases hlt : k < l.length
   ·have hlm : k < m.length := by have := HL.out; omega
    obtain ⟨A, off, rfl, hra⟩ := ItsIn.at (ha.kept hbw) hlt
    obtain ⟨A2, off2, rfl, hrb⟩ := ItsIn.at (hb.kept hbw) hlm
    have hlti : decide (k < l.length) = true := decide_eq_true hlt
    by_cases he : l[k] = m[k]
    ·have HS := Lib.hid (take_next hlt hlm HP.out he)
     have hEq := fun (W : World) => eqItem W 9997 l[k].key m[k].key l[k].ck m[k].ck
     rw [decide_eq_true ((it_iff _ _).1 he).1, decide_eq_true ((it_iff _ _).1 he).2] at hEq
     have HLT := Lib.hid hlt
     generalize l[k] = x at *
     generalize m[k] = y at *
     clear he
     go_upto_region 6 with fail
     refine wp_region_after (by kernel_rfl) (by kernel_rfl) (fun WA hWA => ?_)
     have hbA : Below wr.heap.size wr WA := by rw [hWA.out]; go_grown
     have p0 := rangeAt_kept hra hbA
     have p1 := rangeAt_kept hrb hbA
     clear hWA hra hrb
     go_big_quiet_step (fail)
     go_big_quiet_step (fail)
     go_big_quiet_step (fail)
     ((with_reducible refine wpQuiet_load_to 38 _ A (off + k * 11) (itCells x) (itVal x) rfl _ Try.underlying38 rfl (by kernel_rfl) p0 ?_ rfl ?_); exact rfl; go_simp)
     go_big_quiet_step (fail)
     go_big_quiet_step (fail)
     go_big_quiet_step (fail)
     ((with_reducible refine wpQuiet_load_to 38 _ A2 (off2 + k * 11) (itCells y) (itVal y) rfl _ Try.underlying38 rfl (by kernel_rfl) p1 ?_ rfl ?_); exact rfl; go_simp)
     go_big_quiet_step (fail)
     refine wpQuiet_nil ?_
     first
      | rintro _ ⟨i, rfl⟩
      | intro i
     have hiA := i.h
     generalize i.w = wq at hiA ⊢
     have hbq : Below wr.heap.size wr wq := below2 hbA hiA
     clear hbA hiA p0 p1
     go_wp2
     go_roundw
     case rel => exact ⟨k + 1, HLT.out, by go_num, HS.out, hbw.trans (hbq.mono hbw.size)⟩
     case measure => have := HLT.out; simp [intOf]; omega
    ·have HE : Hid (decide (l = m) = false) := decide_eq_false (take_ne hlt hlm he)
     have hEq := fun (W : World) => eqItem W 9997 l[k].key m[k].key l[k].ck m[k].ck
     have hff : (decide (l[k].key = m[k].key) && decide (l[k].ck = m[k].ck)) = false := by
      rw [Bool.eq_false_iff]
      intro h
      simp only [Bool.and_eq_true, decide_eq_true_eq] at h
      exact he ((it_iff _ _).2 h)
     rw [hff] at hEq
     generalize l[k] = x at *
     generalize m[k] = y at *
     clear he hff
     go_upto_region 6 with fail
     refine wp_region_after (by kernel_rfl) (by kernel_rfl) (fun WA hWA => ?_)
     have hbA : Below wr.heap.size wr WA := by rw [hWA.out]; go_grown
     have p0 := rangeAt_kept hra hbA
     have p1 := rangeAt_kept hrb hbA
     clear hWA hra hrb
     go_big_quiet_step (fail)
     go_big_quiet_step (fail)
     go_big_quiet_step (fail)
     ((with_reducible refine wpQuiet_load_to 38 _ A (off + k * 11) (itCells x) (itVal x) rfl _ Try.underlying38 rfl (by kernel_rfl) p0 ?_ rfl ?_); exact rfl; go_simp)
     go_big_quiet_step (fail)
     go_big_quiet_step (fail)
     go_big_quiet_step (fail)
     ((with_reducible refine wpQuiet_load_to 38 _ A2 (off2 + k * 11) (itCells y) (itVal y) rfl _ Try.underlying38 rfl (by kernel_rfl) p1 ?_ rfl ?_); exact rfl; go_simp)
     go_big_quiet_step (fail)
     refine wpQuiet_nil ?_
     first
      | rintro _ ⟨i, rfl⟩
      | intro i
     have hiA := i.h
     generalize i.w = wq at hiA ⊢
     have hbq : Below wr.heap.size wr wq := below2 hbA hiA
     clear hbA hiA p0 p1
     go_wp2
     all_goals
      go_ret
      exact ⟨ret_bool HE.out.symm, hbw.trans (hbq.mono hbw.size)⟩
   ·have hlm : ¬ k < m.length := by have := HL.out; omega
    have hlti : decide (k < l.length) = false := decide_eq_false hlt
    have HE : Hid (decide (l = m) = true) := decide_eq_true (take_all hlt hlm HP.out)
    go_wp2
    all_goals
     go_ret
     exact ⟨ret_bool HE.out.symm, hbw⟩
 ·have HE : Hid (decide (l = m) = false) := decide_eq_false (len_ne hlen)
  have hb1 : ((l.length : Nat) != (m.length : Nat)) = true := by rw [bne_iff_ne]; exact hlen
  have hb2 : ((l.length : Int) != (m.length : Int)) = true := by rw [bne_iff_ne]; omega
  clear hlen
  go_enter Try.func10, Try.ntmps10
  go_wp2
  all_goals
   go_ret
   exact ⟨ret_bool HE.out.symm, by go_grown⟩
/-! ### filters -/
set_option maxRecDepth 100000 in
set_option maxHeartbeats 2000000 in
theorem rWithout_any (k : Key) (a : Option Addr) (cap : Nat) (l : List It) (w : World) (hl : l.length ≤ 1073741823) (hin : ItsIn w a l) :
 Calls Try.prog 18 #[.slice a l.length cap, keyV k] w (RetIts (woI l k) w) := by
 obtain ⟨i0, hi, hz0, hz1, hz2⟩ := info_parts Try.infoItem
 have HW : Hid (∀ j (h : j < l.length), (l.take (j + 1)).filter (fun x => decide (x.key ≠ k)) = (l.take j).filter (fun x => decide (x.key ≠ k)) ++ if (fun x : It => decide (x.key ≠ k)) l[j] = true then [l[j]] else []) := fun j h => by
  rw [List.take_succ_eq_append_getElem h, List.filter_append, List.filter_cons, List.filter_nil]
 have HLL : Hid (∀ j, j ≤ l.length → ((l.take j).filter (fun x => decide (x.key ≠ k))).length ≤ j) := fun j hj => by
  have := List.length_filter_le (fun x : It => decide (x.key ≠ k)) (l.take j)
  rw [List.length_take] at this
  omega
 go_enter Try.func18, Try.ntmps18
 go_upto_region 1 with fail
 refine wp_name (fun W hW => ?_)
 have hbW : Below w.heap.size w W := by rw [hW.out]; go_grown
 have hK : KeyAt W w.heap.size k := by rw [hW.out]; exact ⟨by go_simp, by go_simp, by go_simp⟩
 have hinW := hin.kept hbW
 have hm := noGuardKey
 clear hW
 go_wp2
 go_loopw [5, 6] (fun v i wr => ∃ j : Nat, i = .int .i64 j ∧ j ≤ l.length ∧ wr.ownsRow W.heap.size 38 11 v ((l.take j).filter (fun x => decide (x.key ≠ k))).length (itsVals ((l.take j).filter (fun x => decide (x.key ≠ k)))) ∧ Below W.heap.size W wr) (fun _ i _ => l.length - (intOf i).toNat)
 case atStart => exact ⟨0, rfl, Nat.zero_le _, World.ownsRow_made _ _ _ (by first | exact Nat.le_refl _ | simp) (by decide) rfl, (Below.refl _ _).alloc (Nat.le_refl _) _⟩
 case round =>
  obtain ⟨j, rfl, hj, hown, hb⟩ := hrel
  by_cases hlt : j < l.length
  ·obtain ⟨A, off, rfl, hr⟩ := ItsIn.at (hinW.kept hb) hlt
   have hW := HW.out j hlt
   have hln := HLL.out j (Nat.le_of_lt hlt)
   obtain ⟨L, hL⟩ : ∃ L, L = (l.take j).filter (fun x => decide (x.key ≠ k)) := ⟨_, rfl⟩
   rw [← hL] at hW hln hown
   have HLT := Lib.hid hlt
   have hlti : decide (j < l.length) = true := decide_eq_true hlt
   skip
   generalize l[j] = y at *
   clear hlt hL
   by_cases hy : (fun x : It => decide (x.key ≠ k)) y = true
   ·rw [if_pos hy] at hW
    have HWW := Lib.hid hW
    simp only at hy
    have hEq := fun (W : World) => eqKey W 9998 y.key k
    rw [decide_eq_false (of_decide_eq_true hy)] at hEq
    clear hy
    have hlt := HLT.out
    go_upto_region 5 with fail
    refine wp_region_after (by kernel_rfl) (by kernel_rfl) (fun WA hWA => ?_)
    have hbA : Below wr.heap.size wr WA := by rw [hWA.out]; go_grown
    have p0 := rangeAt_kept (range_keyCs hr) hbA
    have p1 := rangeAt_kept ((hK.kept hb).range) hbA
    clear hWA
    go_big_quiet_step (fail)
    go_big_quiet_step (fail)
    go_big_quiet_step (fail)
    go_big_quiet_step (fail)
    ((with_reducible refine wpQuiet_load_to 34 _ A (off + j * 11) (keyCs y.key) (keyV y.key) rfl _ Try.underlying34 rfl (by kernel_rfl) p0 ?_ rfl ?_); exact rfl; go_simp)
    ((with_reducible refine wpQuiet_load_to 34 _ w.heap.size 0 (keyCs k) (keyV k) rfl _ Try.underlying34 rfl (by kernel_rfl) p1 ?_ rfl ?_); exact rfl; go_simp)
    go_big_quiet_step (fail)
    refine wpQuiet_nil ?_
    first
     | rintro _ ⟨i, rfl⟩
     | intro i
    have hiA := i.h
    generalize i.w = wq at hiA ⊢
    have hbq : Below wr.heap.size wr wq := below2 hbA hiA
    clear hbA hiA p0 p1 hEq hlt
    have hr2 := rangeAt_kept hr hbq
    have hown2 := ownsRow_below hown hbq
    have HB2 : Hid (Below W.heap.size W wq) := Lib.hid (hb.trans (hbq.mono hb.size))
    clear hr hown hbq hW
    have hzz := HB2.out.size
    go_wp2_with (first
     | ((with_reducible refine wpList_load_to 38 _ A (off + j * 11) (itCells y) (itVal y) rfl _ Try.underlying38 rfl (by kernel_rfl) hr2 ?_ rfl ?_); exact rfl)
     | (refine wpList_build1I rfl 22 38 _ rfl (itCells y).toArray 11 rfl rfl (by decide) (by decide) Try.underlying22 (by kernel_rfl) (by kernel_rfl) ?_)
     | (at_builtin; go_loud (refine wpList_append_own_at _ rfl _ _ 22 rfl W.heap.size 38 i0 (itVal it0) 11 96 Try.underlying22 hi hz0 hz1 hz2 rfl (by decide) _ _ _ rfl (hown2.alloc _) ⟨wq.heap.size, 0, none⟩ 1 1 (itCells y) rfl rfl (its_news wq y _) (itCells_one _) (by unfold maxLen; omega) (by omega) (by simp; omega) ?_)))
    intro v' wf hownf hgrow _ hbk
    have hal : Below wq.heap.size wq (wq.alloc (Obj.cells (itCells y).toArray 38)) := (Below.refl _ _).alloc (Nat.le_refl _) _
    have hbF : Below W.heap.size W wf := (HB2.out.trans (hal.mono HB2.out.size)).grown hgrow (by have := hal.size; have := HB2.out.size; omega) (fun q hq => (hown2.lt q hq).1)
    have HZ := Lib.hid (And.intro hownf hbF)
    clear hownf hgrow hal hown2 hr2 hbF hbk
    go_wp2
    go_roundw
    case rel => exact ⟨j + 1, by go_num, HLT.out, by rw [HWW.out, List.length_append, itsVals_append, itsVals_one]; exact HZ.out.1, HZ.out.2⟩
    case measure => have := HLT.out; simp [intOf]; omega
   ·rw [if_neg hy, List.append_nil] at hW
    have HWW := Lib.hid hW
    simp only at hy
    have hEq := fun (W : World) => eqKey W 9998 y.key k
    rw [decide_eq_true (Classical.byContradiction fun e => hy (decide_eq_true e))] at hEq
    clear hy
    have hlt := HLT.out
    go_upto_region 5 with fail
    refine wp_region_after (by kernel_rfl) (by kernel_rfl) (fun WA hWA => ?_)
    have hbA : Below wr.heap.size wr WA := by rw [hWA.out]; go_grown
    have p0 := rangeAt_kept (range_keyCs hr) hbA
    have p1 := rangeAt_kept ((hK.kept hb).range) hbA
    clear hWA
    go_big_quiet_step (fail)
    go_big_quiet_step (fail)
    go_big_quiet_step (fail)
    go_big_quiet_step (fail)
    ((with_reducible refine wpQuiet_load_to 34 _ A (off + j * 11) (keyCs y.key) (keyV y.key) rfl _ Try.underlying34 rfl (by kernel_rfl) p0 ?_ rfl ?_); exact rfl; go_simp)
    ((with_reducible refine wpQuiet_load_to 34 _ w.heap.size 0 (keyCs k) (keyV k) rfl _ Try.underlying34 rfl (by kernel_rfl) p1 ?_ rfl ?_); exact rfl; go_simp)
    go_big_quiet_step (fail)
    refine wpQuiet_nil ?_
    first
     | rintro _ ⟨i, rfl⟩
     | intro i
    have hiA := i.h
    generalize i.w = wq at hiA ⊢
    have hbq : Below wr.heap.size wr wq := below2 hbA hiA
    clear hbA hiA p0 p1 hEq hlt
    have HO2 := Lib.hid (ownsRow_below hown hbq)
    have HB2 := Lib.hid (hb.trans (hbq.mono hb.size))
    clear hr hown hbq hW
    go_wp2
    go_roundw
    case rel => exact ⟨j + 1, by go_num, HLT.out, by rw [HWW.out]; exact HO2.out, HB2.out⟩
    case measure => have := HLT.out; simp [intOf]; omega
  ·obtain rfl : j = l.length := by omega
   rw [List.take_length] at hown
   have hlti : decide (l.length < l.length) = false := decide_eq_false hlt
   have HZ := Lib.hid (And.intro hown hb)
   clear hown hb
   go_wp2
   all_goals
        go_ret
        exact ⟨_, rfl, own_low HZ.out.1 hbW.size, hbW.trans (HZ.out.2.mono hbW.size)⟩
end Go.Proofs.Ytohmadchgacafaa
