/- The references on lists of items: Put, ByKeys, Find. Conditions: as in the text. -/
import Derived.Test.YtohmadchgacafaaIxR
set_option linter.unusedSimpArgs false
set_option linter.unusedVariables false
set_option linter.unnecessarySimpa false
namespace Go.Proofs.Ytohmadchgacafaa
open Go.RowKit
set_option maxRecDepth 100000 in
set_option maxHeartbeats 4000000 in
theorem rPut25_any (a : Option Addr) (cap : Nat) (l : List It) (y : It) (w : World) (hl : l.length ≤ 536870912) (hin : ItsIn w a l) :
 Calls Try.prog 16 #[.slice a l.length cap, itVal y] w (RetIts (putI l y) w) := by
 obtain ⟨i0, hi, hz0, hz1, hz2⟩ := info_parts Try.infoItem
 have HWA : Hid (∀ j (h : j < l.length), (l.take (j + 1)).filter (fun x => keyLt x.key y.key) = (l.take j).filter (fun x => keyLt x.key y.key) ++ if keyLt l[j].key y.key = true then [l[j]] else []) := fun j h => by
  rw [List.take_succ_eq_append_getElem h, List.filter_append, List.filter_cons, List.filter_nil]
 have HWB : Hid (∀ j (h : j < l.length), (l.take (j + 1)).filter (fun x => keyLt y.key x.key) = (l.take j).filter (fun x => keyLt y.key x.key) ++ if keyLt y.key l[j].key = true then [l[j]] else []) := fun j h => by
  rw [List.take_succ_eq_append_getElem h, List.filter_append, List.filter_cons, List.filter_nil]
 have HLL : Hid (∀ j, j ≤ l.length → ((l.take j).filter (fun x => keyLt x.key y.key)).length ≤ j ∧ ((l.take j).filter (fun x => keyLt y.key x.key)).length ≤ j) := fun j hj => by
  have h1 := List.length_filter_le (fun x : It => keyLt x.key y.key) (l.take j)
  have h2 := List.length_filter_le (fun x : It => keyLt y.key x.key) (l.take j)
  rw [List.length_take] at h1 h2
  omega
 go_enter Try.func16, Try.ntmps16
 go_upto_region 1 with fail
 refine wp_name (fun W hW => ?_)
 have hbW : Below w.heap.size w W := by rw [hW.out]; go_grown
 have hyW : W.rangeAt w.heap.size 0 (itCells y) := by rw [hW.out]; exact itCells_box y w _
 have hinW := hin.kept hbW
 clear hW
 go_wp2
 go_loopw [5, 6, 7] (fun va vb i wr => ∃ j : Nat, i = .int .i64 j ∧ j ≤ l.length ∧ wr.ownsRow W.heap.size 38 11 va ((l.take j).filter (fun x => keyLt x.key y.key)).length (itsVals ((l.take j).filter (fun x => keyLt x.key y.key))) ∧ wr.ownsRow W.heap.size 38 11 vb ((l.take j).filter (fun x => keyLt y.key x.key)).length (itsVals ((l.take j).filter (fun x => keyLt y.key x.key))) ∧ (∀ q, va.ownBlock = some q → vb.ownBlock ≠ some q) ∧ Below W.heap.size W wr) (fun _ _ i _ => l.length - (intOf i).toNat)
 case atStart => exact ⟨0, rfl, Nat.zero_le _, (World.ownsRow_made _ _ _ (Nat.le_refl _) (by decide) rfl).alloc _, (by have h9 := World.ownsRow_made (e := 38) (size := 11) (W.alloc (.cells #[] 38)) #[] 0 ((Below.refl W.heap.size W).alloc (Nat.le_refl _) (.cells #[] 38)).size (by decide) rfl; rw [show (W.alloc (Obj.cells #[] 38)).heap.size = W.heap.size + 1 by simp] at h9; exact h9), fun q hq => (by cases hq; intro e; simp [Value.ownBlock] at e), ((Below.refl _ _).alloc (Nat.le_refl _) _).alloc (by simp) _⟩
 case round =>
  obtain ⟨j, rfl, hj, howna, hownb, hne, hb⟩ := hrel
  by_cases hlt : j < l.length
  ·obtain ⟨A, off, rfl, hrW⟩ := ItsIn.at hinW hlt
   have hWA := HWA.out j hlt
   have hWB := HWB.out j hlt
   obtain ⟨hla, hlb⟩ := HLL.out j (Nat.le_of_lt hlt)
   obtain ⟨LA, hLA⟩ : ∃ L, L = (l.take j).filter (fun x => keyLt x.key y.key) := ⟨_, rfl⟩
   obtain ⟨LB, hLB⟩ : ∃ L, L = (l.take j).filter (fun x => keyLt y.key x.key) := ⟨_, rfl⟩
   rw [← hLA] at hWA hla howna
   rw [← hLB] at hWB hlb hownb
   have HLT := Lib.hid hlt
   have hlti : decide (j < l.length) = true := decide_eq_true hlt
   generalize l[j] = z at *
   have HK1 := Lib.hid (fun (X : World) => rKeyLess_any z.key y.key X)
   have HK2 := Lib.hid (fun (X : World) => rKeyLess_any y.key z.key X)
   clear hlt hLA hLB
   cases h1 : keyLt z.key y.key with
   | true =>
     have h2 : keyLt y.key z.key = false := by
      cases h2 : keyLt y.key z.key with
      | false => rfl
      | true => have := keyLt_trans h1 h2; rw [keyLt_irrefl] at this; cases this
     rw [h1, if_pos rfl] at hWA
     rw [h2, if_neg (by decide), List.append_nil] at hWB
     rw [h1] at HK1
     rw [h2] at HK2
     have HWW := Lib.hid (And.intro hWA hWB)
     clear h1 h2 hWA hWB
     have hlt := HLT.out
     go_upto_region 6 with fail
     refine wp_region_after (by kernel_rfl) (by kernel_rfl) (fun WA hWA => ?_)
     have hbA : Below wr.heap.size wr WA := by rw [hWA.out]; go_grown
     have p0 := rangeAt_kept (range_keyCs (rangeAt_kept hrW hb)) hbA
     have p1 := rangeAt_kept (range_keyCs (rangeAt_kept hyW hb)) hbA
     clear hWA
     go_big_quiet_step (fail)
     go_big_quiet_step (fail)
     go_big_quiet_step (fail)
     go_big_quiet_step (fail)
     ((with_reducible refine wpQuiet_load_to 34 _ A (off + j * 11) (keyCs z.key) (keyV z.key) rfl _ Try.underlying34 rfl (by kernel_rfl) p0 ?_ rfl ?_); exact rfl; go_simp)
     go_big_quiet_step (fail)
     ((with_reducible refine wpQuiet_load_to 34 _ w.heap.size 0 (keyCs y.key) (keyV y.key) rfl _ Try.underlying34 rfl (by kernel_rfl) p1 ?_ rfl ?_); exact rfl; go_simp)
     go_big_quiet_step (exact Calls.after (HK1.out _))
     refine wpQuiet_nil ?_
     first
      | rintro _ ⟨i, rfl⟩
      | intro i
     have hiA := i.h
     generalize i.w = wq at hiA ⊢
     have hbwq : Below wr.heap.size wr wq := below2 hbA hiA
     clear hbA hiA p0 p1 hlt
     have ha2 := ownsRow_below howna hbwq
     have hb2 := ownsRow_below hownb hbwq
     have HB2 : Hid (Below W.heap.size W wq) := Lib.hid (hb.trans (hbwq.mono hb.size))
     clear howna hownb hbwq
     clear hb
     have hr2 := rangeAt_kept hrW HB2.out
     have hzz := HB2.out.size
     go_upto_region 8 with (first
      | ((with_reducible refine wpList_load_to 38 _ A (off + j * 11) (itCells z) (itVal z) rfl _ Try.underlying38 rfl (by kernel_rfl) hr2 ?_ rfl ?_); exact rfl)
      | (refine wpList_build1I rfl 22 38 _ rfl (itCells z).toArray 11 rfl rfl (by decide) (by decide) Try.underlying22 (by kernel_rfl) (by kernel_rfl) ?_)
      | (at_builtin; go_loud (refine wpList_append_own_at _ rfl _ _ 22 rfl W.heap.size 38 i0 (itVal it0) 11 96 Try.underlying22 hi hz0 hz1 hz2 rfl (by decide) _ _ _ rfl (ha2.alloc _) ⟨wq.heap.size, 0, none⟩ 1 1 (itCells z) rfl rfl (its_news wq z _) (itCells_one _) (by unfold maxLen; omega) (by omega) (by simp; omega) ?_)))
     intro v' wf hownf hgrow _ hbk
     have hal : Below wq.heap.size wq (wq.alloc (Obj.cells (itCells z).toArray 38)) := (Below.refl _ _).alloc (Nat.le_refl _) _
     have hbF : Below W.heap.size W wf := (HB2.out.trans (hal.mono HB2.out.size)).grown hgrow (by have := hal.size; have := HB2.out.size; omega) (fun q hq => (ha2.lt q hq).1)
     have hbl2 := hb2.lt
     have hne2 : ∀ q, v'.ownBlock = some q → Value.ownBlock _ ≠ some q := fun q hq e => by
      rcases hbk with hbk | hbk
      ·rw [hbk] at hq; exact hne q hq e
      ·rw [hbk] at hq
       cases hq
       have h7 := (hbl2 _ e).2
       have h8 := hal.size
       omega
     have hb3 := own_grown (ownsRow_below hb2 hal) hgrow (fun q hq e => hne q e hq)
     clear hgrow hbk hal hr2 hzz hbl2
     have howna := hownf
     have hownb := hb3
     have HNE := Lib.hid hne2
     clear hownf hb3 hne2 hne ha2 hb2
     have hlt := HLT.out
     go_upto_region 8 with fail
     refine wp_region_after (by kernel_rfl) (by kernel_rfl) (fun WA hWA => ?_)
     have hbA : Below wf.heap.size wf WA := by rw [hWA.out]; go_grown
     have p0 := rangeAt_kept (range_keyCs (rangeAt_kept hrW hbF)) hbA
     have p1 := rangeAt_kept (range_keyCs (rangeAt_kept hyW hbF)) hbA
     clear hWA
     go_big_quiet_step (fail)
     ((with_reducible refine wpQuiet_load_to 34 _ w.heap.size 0 (keyCs y.key) (keyV y.key) rfl _ Try.underlying34 rfl (by kernel_rfl) p1 ?_ rfl ?_); exact rfl; go_simp)
     go_big_quiet_step (fail)
     go_big_quiet_step (fail)
     go_big_quiet_step (fail)
     go_big_quiet_step (fail)
     ((with_reducible refine wpQuiet_load_to 34 _ A (off + j * 11) (keyCs z.key) (keyV z.key) rfl _ Try.underlying34 rfl (by kernel_rfl) p0 ?_ rfl ?_); exact rfl; go_simp)
     go_big_quiet_step (exact Calls.after (HK2.out _))
     refine wpQuiet_nil ?_
     first
      | rintro _ ⟨i, rfl⟩
      | intro i
     have hiA := i.h
     generalize i.w = wx at hiA ⊢
     have hbwx : Below wf.heap.size wf wx := below2 hbA hiA
     clear hbA hiA p0 p1 hlt
     have HZ := Lib.hid (And.intro (ownsRow_below howna hbwx) (And.intro (ownsRow_below hownb hbwx) (And.intro HNE.out (hbF.trans (hbwx.mono hbF.size)))))
     clear howna hownb hbwx hbF
     go_wp2
     go_roundw
     case rel => exact ⟨j + 1, by go_num, HLT.out, by rw [HWW.out.1, List.length_append, itsVals_append, itsVals_one]; exact HZ.out.1, by rw [HWW.out.2]; exact HZ.out.2.1, HZ.out.2.2.1, HZ.out.2.2.2⟩
     case measure => have := HLT.out; simp [intOf]; omega
   | false =>
     rw [h1, if_neg (by decide), List.append_nil] at hWA
     rw [h1] at HK1
     cases h2 : keyLt y.key z.key with
     | true =>
       rw [h2, if_pos rfl] at hWB
       rw [h2] at HK2
       have HWW := Lib.hid (And.intro hWA hWB)
       clear h1 h2 hWA hWB
       have hlt := HLT.out
       go_upto_region 6 with fail
       refine wp_region_after (by kernel_rfl) (by kernel_rfl) (fun WA hWA => ?_)
       have hbA : Below wr.heap.size wr WA := by rw [hWA.out]; go_grown
       have p0 := rangeAt_kept (range_keyCs (rangeAt_kept hrW hb)) hbA
       have p1 := rangeAt_kept (range_keyCs (rangeAt_kept hyW hb)) hbA
       clear hWA
       go_big_quiet_step (fail)
       go_big_quiet_step (fail)
       go_big_quiet_step (fail)
       go_big_quiet_step (fail)
       ((with_reducible refine wpQuiet_load_to 34 _ A (off + j * 11) (keyCs z.key) (keyV z.key) rfl _ Try.underlying34 rfl (by kernel_rfl) p0 ?_ rfl ?_); exact rfl; go_simp)
       go_big_quiet_step (fail)
       ((with_reducible refine wpQuiet_load_to 34 _ w.heap.size 0 (keyCs y.key) (keyV y.key) rfl _ Try.underlying34 rfl (by kernel_rfl) p1 ?_ rfl ?_); exact rfl; go_simp)
       go_big_quiet_step (exact Calls.after (HK1.out _))
       refine wpQuiet_nil ?_
       first
        | rintro _ ⟨i, rfl⟩
        | intro i
       have hiA := i.h
       generalize i.w = w5 at hiA ⊢
       have hbw5 : Below wr.heap.size wr w5 := below2 hbA hiA
       clear hbA hiA p0 p1 hlt
       have hb5 := hb.trans (hbw5.mono hb.size)
       have howna := ownsRow_below howna hbw5
       have hownb := ownsRow_below hownb hbw5
       clear hb hbw5
       have hlt := HLT.out
       go_upto_region 8 with fail
       refine wp_region_after (by kernel_rfl) (by kernel_rfl) (fun WA hWA => ?_)
       have hbA : Below w5.heap.size w5 WA := by rw [hWA.out]; go_grown
       have p0 := rangeAt_kept (range_keyCs (rangeAt_kept hrW hb5)) hbA
       have p1 := rangeAt_kept (range_keyCs (rangeAt_kept hyW hb5)) hbA
       clear hWA
       go_big_quiet_step (fail)
       ((with_reducible refine wpQuiet_load_to 34 _ w.heap.size 0 (keyCs y.key) (keyV y.key) rfl _ Try.underlying34 rfl (by kernel_rfl) p1 ?_ rfl ?_); exact rfl; go_simp)
       go_big_quiet_step (fail)
       go_big_quiet_step (fail)
       go_big_quiet_step (fail)
       go_big_quiet_step (fail)
       ((with_reducible refine wpQuiet_load_to 34 _ A (off + j * 11) (keyCs z.key) (keyV z.key) rfl _ Try.underlying34 rfl (by kernel_rfl) p0 ?_ rfl ?_); exact rfl; go_simp)
       go_big_quiet_step (exact Calls.after (HK2.out _))
       refine wpQuiet_nil ?_
       first
        | rintro _ ⟨i, rfl⟩
        | intro i
       have hiA := i.h
       generalize i.w = wq at hiA ⊢
       have hbwq : Below w5.heap.size w5 wq := below2 hbA hiA
       clear hbA hiA p0 p1 hlt
       have ha2 := ownsRow_below howna hbwq
       have hb2 := ownsRow_below hownb hbwq
       have HB2 : Hid (Below W.heap.size W wq) := Lib.hid (hb5.trans (hbwq.mono hb5.size))
       clear howna hownb hbwq
       clear hb5
       have hr2 := rangeAt_kept hrW HB2.out
       have hzz := HB2.out.size
       go_upto_region 5 with (first
        | ((with_reducible refine wpList_load_to 38 _ A (off + j * 11) (itCells z) (itVal z) rfl _ Try.underlying38 rfl (by kernel_rfl) hr2 ?_ rfl ?_); exact rfl)
        | (refine wpList_build1I rfl 22 38 _ rfl (itCells z).toArray 11 rfl rfl (by decide) (by decide) Try.underlying22 (by kernel_rfl) (by kernel_rfl) ?_)
        | (at_builtin; go_loud (refine wpList_append_own_at _ rfl _ _ 22 rfl W.heap.size 38 i0 (itVal it0) 11 96 Try.underlying22 hi hz0 hz1 hz2 rfl (by decide) _ _ _ rfl (hb2.alloc _) ⟨wq.heap.size, 0, none⟩ 1 1 (itCells z) rfl rfl (its_news wq z _) (itCells_one _) (by unfold maxLen; omega) (by omega) (by simp; omega) ?_)))
       intro v' wf hownf hgrow _ hbk
       have hal : Below wq.heap.size wq (wq.alloc (Obj.cells (itCells z).toArray 38)) := (Below.refl _ _).alloc (Nat.le_refl _) _
       have hbF : Below W.heap.size W wf := (HB2.out.trans (hal.mono HB2.out.size)).grown hgrow (by have := hal.size; have := HB2.out.size; omega) (fun q hq => (hb2.lt q hq).1)
       have hal2 := ha2.lt
       have hne2 : ∀ q, Value.ownBlock _ = some q → v'.ownBlock ≠ some q := fun q e hq => by
        rcases hbk with hbk | hbk
        ·rw [hbk] at hq; exact hne q e hq
        ·rw [hbk] at hq
         cases hq
         have h7 := (hal2 _ e).2
         have h8 := hal.size
         omega
       have ha3 := own_grown (ownsRow_below ha2 hal) hgrow (fun q hq e => hne q hq e)
       clear hgrow hbk hal hr2 hzz hal2
       have HZ := Lib.hid (And.intro ha3 (And.intro hownf (And.intro hne2 hbF)))
       clear ha3 hownf hne2 hbF ha2 hb2 hne
       go_wp2
       go_roundw
       case rel => exact ⟨j + 1, by go_num, HLT.out, by rw [HWW.out.1]; exact HZ.out.1, by rw [HWW.out.2, List.length_append, itsVals_append, itsVals_one]; exact HZ.out.2.1, HZ.out.2.2.1, HZ.out.2.2.2⟩
       case measure => have := HLT.out; simp [intOf]; omega
     | false =>
       rw [h2, if_neg (by decide), List.append_nil] at hWB
       rw [h2] at HK2
       have HWW := Lib.hid (And.intro hWA hWB)
       clear h1 h2 hWA hWB
       have hlt := HLT.out
       go_upto_region 6 with fail
       refine wp_region_after (by kernel_rfl) (by kernel_rfl) (fun WA hWA => ?_)
       have hbA : Below wr.heap.size wr WA := by rw [hWA.out]; go_grown
       have p0 := rangeAt_kept (range_keyCs (rangeAt_kept hrW hb)) hbA
       have p1 := rangeAt_kept (range_keyCs (rangeAt_kept hyW hb)) hbA
       clear hWA
       go_big_quiet_step (fail)
       go_big_quiet_step (fail)
       go_big_quiet_step (fail)
       go_big_quiet_step (fail)
       ((with_reducible refine wpQuiet_load_to 34 _ A (off + j * 11) (keyCs z.key) (keyV z.key) rfl _ Try.underlying34 rfl (by kernel_rfl) p0 ?_ rfl ?_); exact rfl; go_simp)
       go_big_quiet_step (fail)
       ((with_reducible refine wpQuiet_load_to 34 _ w.heap.size 0 (keyCs y.key) (keyV y.key) rfl _ Try.underlying34 rfl (by kernel_rfl) p1 ?_ rfl ?_); exact rfl; go_simp)
       go_big_quiet_step (exact Calls.after (HK1.out _))
       refine wpQuiet_nil ?_
       first
        | rintro _ ⟨i, rfl⟩
        | intro i
       have hiA := i.h
       generalize i.w = w5 at hiA ⊢
       have hbw5 : Below wr.heap.size wr w5 := below2 hbA hiA
       clear hbA hiA p0 p1 hlt
       have hb5 := hb.trans (hbw5.mono hb.size)
       have howna := ownsRow_below howna hbw5
       have hownb := ownsRow_below hownb hbw5
       clear hb hbw5
       have hlt := HLT.out
       go_upto_region 8 with fail
       refine wp_region_after (by kernel_rfl) (by kernel_rfl) (fun WA hWA => ?_)
       have hbA : Below w5.heap.size w5 WA := by rw [hWA.out]; go_grown
       have p0 := rangeAt_kept (range_keyCs (rangeAt_kept hrW hb5)) hbA
       have p1 := rangeAt_kept (range_keyCs (rangeAt_kept hyW hb5)) hbA
       clear hWA
       go_big_quiet_step (fail)
       ((with_reducible refine wpQuiet_load_to 34 _ w.heap.size 0 (keyCs y.key) (keyV y.key) rfl _ Try.underlying34 rfl (by kernel_rfl) p1 ?_ rfl ?_); exact rfl; go_simp)
       go_big_quiet_step (fail)
       go_big_quiet_step (fail)
       go_big_quiet_step (fail)
       go_big_quiet_step (fail)
       ((with_reducible refine wpQuiet_load_to 34 _ A (off + j * 11) (keyCs z.key) (keyV z.key) rfl _ Try.underlying34 rfl (by kernel_rfl) p0 ?_ rfl ?_); exact rfl; go_simp)
       go_big_quiet_step (exact Calls.after (HK2.out _))
       refine wpQuiet_nil ?_
       first
        | rintro _ ⟨i, rfl⟩
        | intro i
       have hiA := i.h
       generalize i.w = wq at hiA ⊢
       have hbwq : Below w5.heap.size w5 wq := below2 hbA hiA
       clear hbA hiA p0 p1 hlt
       have HZ := Lib.hid (And.intro (ownsRow_below howna hbwq) (And.intro (ownsRow_below hownb hbwq) (And.intro hne (hb5.trans (hbwq.mono hb5.size)))))
       clear howna hownb hbwq hb5 hne
       go_wp2
       go_roundw
       case rel => exact ⟨j + 1, by go_num, HLT.out, by rw [HWW.out.1]; exact HZ.out.1, by rw [HWW.out.2]; exact HZ.out.2.1, HZ.out.2.2.1, HZ.out.2.2.2⟩
       case measure => have := HLT.out; simp [intOf]; omega
  ·obtain rfl : j = l.length := by omega
   have hla := (HLL.out l.length (Nat.le_refl _))
   rw [List.take_length] at howna hownb hla
   obtain ⟨LA, hLA⟩ : ∃ L, L = l.filter (fun x => keyLt x.key y.key) := ⟨_, rfl⟩
   obtain ⟨LB, hLB⟩ : ∃ L, L = l.filter (fun x => keyLt y.key x.key) := ⟨_, rfl⟩
   rw [← hLA] at howna hla
   rw [← hLB] at hownb hla
   have HPI : Hid (putI l y = LA ++ y :: LB) := by unfold Hid putI; rw [hLA, hLB]
   have hlti : decide (l.length < l.length) = false := decide_eq_false hlt
   obtain ⟨wq, hwq⟩ : ∃ wq, wq = wr := ⟨_, rfl⟩
   rw [← hwq] at howna hownb hb ⊢
   have ha2 := howna
   have hb2 := hownb
   have HB2 := Lib.hid hb
   have hyq := rangeAt_kept hyW hb
   clear howna hownb hwq hb hLA hLB
   have hzz := HB2.out.size
   go_upto_region 11 with (first
        | ((with_reducible refine wpList_load_to 38 _ w.heap.size (0) (itCells y) (itVal y) rfl _ Try.underlying38 rfl (by kernel_rfl) hyq ?_ rfl ?_); exact rfl)
        | (refine wpList_build1I rfl 22 38 _ rfl (itCells y).toArray 11 rfl rfl (by decide) (by decide) Try.underlying22 (by kernel_rfl) (by kernel_rfl) ?_)
        | (at_builtin; go_loud (refine wpList_append_own_at _ rfl _ _ 22 rfl W.heap.size 38 i0 (itVal it0) 11 96 Try.underlying22 hi hz0 hz1 hz2 rfl (by decide) _ _ _ rfl (ha2.alloc _) ⟨wq.heap.size, 0, none⟩ 1 1 (itCells y) rfl rfl (its_news wq y _) (itCells_one _) (by unfold maxLen; omega) (by omega) (by simp; omega) ?_)))
   intro v' wf hownf hgrow _ hbk
   have hal : Below wq.heap.size wq (wq.alloc (Obj.cells (itCells y).toArray 38)) := (Below.refl _ _).alloc (Nat.le_refl _) _
   have hbF : Below W.heap.size W wf := (HB2.out.trans (hal.mono HB2.out.size)).grown hgrow (by have := hal.size; have := HB2.out.size; omega) (fun q hq => (ha2.lt q hq).1)
   have hb3 := own_grown (ownsRow_below hb2 hal) hgrow (fun q hq e => hne q e hq)
   obtain ⟨a3, c3, rfl, hin3, hc3⟩ := own_cellsIn hb3
   have hzf := hbF.size
   have HOWN := Lib.hid hownf
   have HBF := Lib.hid hbF
   clear hgrow hbk hal hyq hb2 ha2 hownf hbF
   go_wp2_with (at_builtin; go_loud (refine wpList_append_cells rfl _ _ 22 rfl W.heap.size 38 i0 (itVal it0) 11 96 Try.underlying22 hi hz0 hz1 hz2 rfl (by decide) _ _ _ rfl HOWN.out a3 LB.length c3 (itsVals LB) rfl (itsVals_length _) hin3 (itsVals_one' _) (by unfold maxLen; omega) (by omega) hzf ?_))
   intro v9 w9 hown9 hg9
   have HZ : Hid (w9.ownsRow W.heap.size 38 11 v9 (putI l y).length (itsVals (putI l y)) ∧ Below W.heap.size W w9) := Lib.hid ⟨by
        rw [HPI.out, List.length_append, List.length_cons, itsVals_append, itsVals_cons]
        have := hown9
        rw [show LA.length + 1 + LB.length = LA.length + (LB.length + 1) by omega] at this
        first | exact this | (rw [List.append_assoc] at this; exact this), HBF.out.grown hg9 hzf (fun q hq => (HOWN.out.lt q hq).1)⟩
   clear hown9 hg9
   go_wp2
   all_goals
        go_ret
        exact ⟨_, rfl, own_low HZ.out.1 hbW.size, hbW.trans (HZ.out.2.mono hbW.size)⟩
/-! ### ByKeys -/
/-! ### Find -/
set_option maxRecDepth 100000 in
set_option maxHeartbeats 2000000 in
theorem rFind25_any (a : Option Addr) (cap : Nat) (l : List It) (k : Key) (w : World) (hl : l.length ≤ 536870911) (hin : ItsIn w a l) :
 Calls Try.prog 30 #[.slice a l.length cap, keyV k] w (RetFind l k w) := by
 have hm := noGuardKey
 go_enter Try.func30, Try.ntmps30
 go_upto_region 1 with fail
 refine wp_name (fun W hW => ?_)
 have hbW : Below w.heap.size w W := by rw [hW.out]; go_grown
 have hK : KeyAt W w.heap.size k := by rw [hW.out]; exact ⟨by go_simp, by go_simp, by go_simp⟩
 obtain ⟨C, hC, hCs⟩ : ∃ C : Array Value, W.heap[w.heap.size + 1]? = some (.cells C 38 (0, 0)) ∧ C.size = 11 := ⟨_, by rw [hW.out]; exact heap_last1 w _ _, rfl⟩
 have hinW := hin.kept hbW
 have hCl : w.heap.size + 1 < W.heap.size := (Array.getElem?_eq_some_iff.1 hC).1
 clear hW
 go_wp2
 go_loopw [6] (fun i wr => ∃ j : Nat, i = .int .i64 j ∧ j ≤ l.length ∧ (∀ x ∈ l.take j, x.key ≠ k) ∧ Below W.heap.size W wr) (fun i _ => l.length - (intOf i).toNat)
 case atStart => exact ⟨0, rfl, Nat.zero_le _, fun x hx => (by simp at hx), Below.refl _ _⟩
 case round =>
  obtain ⟨j, rfl, hj, hno, hb⟩ := hrel
  have HNO := Lib.hid hno
  clear hno
  by_cases hlt : j < l.length
  ·obtain ⟨A, off, rfl, hr⟩ := ItsIn.at (hinW.kept hb) hlt
   have HT : Hid (l.take (j + 1) = l.take j ++ [l[j]]) := List.take_succ_eq_append_getElem hlt
   have HG : Hid (l[j]? = some l[j]) := List.getElem?_eq_getElem hlt
   have HLT := Lib.hid hlt
   have hlti : decide (j < l.length) = true := decide_eq_true hlt
   have hEq := fun (W : World) => eqKey W 9998 l[j].key k
   generalize l[j] = y at *
   by_cases hy : y.key = k
   ·rw [decide_eq_true hy] at hEq
    have HE : Hid (findV l k = .tuple #[itVal y, .bool true]) := by
     obtain ⟨h5, h6⟩ := List.getElem?_eq_some_iff.1 HG.out
     have hf : getI l k = some y := by
        unfold getI
        rw [List.find?_eq_some_iff_getElem]
        exact ⟨by simpa using hy, j, h5, h6, fun t ht => by
           have := HNO.out l[t] (List.mem_take_iff_getElem.2 ⟨t, by omega, rfl⟩)
           simpa using this⟩
     unfold Hid findV
     rw [hf]
     rfl
    clear hy
    go_upto_region 4 with fail
    refine wp_region_after (by kernel_rfl) (by kernel_rfl) (fun WA hWA => ?_)
    have hbA : Below wr.heap.size wr WA := by rw [hWA.out]; go_grown
    have p0 := rangeAt_kept (range_keyCs hr) hbA
    have p1 := rangeAt_kept ((hK.kept hb).range) hbA
    clear hWA
    go_big_quiet_step (fail)
    go_big_quiet_step (fail)
    go_big_quiet_step (fail)
    go_big_quiet_step (fail)
    ((with_reducible refine wpQuiet_load_to 34 _ A (off + j * 11) (keyCs y.key) (keyV y.key) rfl _ Try.underlying34 rfl (by kernel_rfl) p0 ?_ rfl ?_); exact rfl; go_simp)
    ((with_reducible refine wpQuiet_load_to 34 _ w.heap.size 0 (keyCs k) (keyV k) rfl _ Try.underlying34 rfl (by kernel_rfl) p1 ?_ rfl ?_); exact rfl; go_simp)
    go_big_quiet_step (fail)
    refine wpQuiet_nil ?_
    first
     | rintro _ ⟨i, rfl⟩
     | intro i
    have hiA := i.h
    generalize i.w = wq at hiA ⊢
    have hbq : Below wr.heap.size wr wq := below2 hbA hiA
    have hb2 := hb.trans (hbq.mono hb.size)
    clear hbA hiA p0 p1
    have hrq := rangeAt_kept hr hbq
    have hCq := (hb2.block _ hCl).trans hC
    clear hr hbq hEq
    go_wp2_with (first
     | ((with_reducible refine wpList_load_to 38 _ A (off + j * 11) (itCells y) (itVal y) rfl _ Try.underlying38 rfl (by kernel_rfl) hrq ?_ rfl ?_); exact rfl)
     | (refine wpList_store_row rfl 38 _ _ rfl (w.heap.size + 1) (itCells y).toArray rfl rfl 38 C hCq (by kernel_rfl) hCs (by kernel_rfl) ?_))
    refine ret_cell_tmpI 4 5 38 38 (w.heap.size + 1) (itCells y).toArray _ _ rfl rfl rfl (setRow_heap _ _ _ _ _ _ hCq) Try.underlying38 rfl (by kernel_rfl) rfl ?_
    exact ⟨by rw [HE.out]; rfl, below_setRow (hbW.trans (hb2.mono hbW.size)) (by omega) _⟩
   ·rw [decide_eq_false hy] at hEq
    have HY := Lib.hid hy
    clear hy
    go_upto_region 4 with fail
    refine wp_region_after (by kernel_rfl) (by kernel_rfl) (fun WA hWA => ?_)
    have hbA : Below wr.heap.size wr WA := by rw [hWA.out]; go_grown
    have p0 := rangeAt_kept (range_keyCs hr) hbA
    have p1 := rangeAt_kept ((hK.kept hb).range) hbA
    clear hWA
    go_big_quiet_step (fail)
    go_big_quiet_step (fail)
    go_big_quiet_step (fail)
    go_big_quiet_step (fail)
    ((with_reducible refine wpQuiet_load_to 34 _ A (off + j * 11) (keyCs y.key) (keyV y.key) rfl _ Try.underlying34 rfl (by kernel_rfl) p0 ?_ rfl ?_); exact rfl; go_simp)
    ((with_reducible refine wpQuiet_load_to 34 _ w.heap.size 0 (keyCs k) (keyV k) rfl _ Try.underlying34 rfl (by kernel_rfl) p1 ?_ rfl ?_); exact rfl; go_simp)
    go_big_quiet_step (fail)
    refine wpQuiet_nil ?_
    first
     | rintro _ ⟨i, rfl⟩
     | intro i
    have hiA := i.h
    generalize i.w = wq at hiA ⊢
    have hbq : Below wr.heap.size wr wq := below2 hbA hiA
    have hb2 := hb.trans (hbq.mono hb.size)
    clear hbA hiA p0 p1
    clear hr hbq hEq
    go_wp2
    go_roundw
    case rel => exact ⟨j + 1, by go_num, HLT.out, by
     rw [HT.out]
     intro x hx
     rcases List.mem_append.1 hx with hx | hx
     ·exact HNO.out x hx
     ·rw [List.mem_singleton.1 hx]; exact HY.out, hb2⟩
    case measure => have := HLT.out; simp [intOf]; omega
  ·obtain rfl : j = l.length := by omega
   have hlti : decide (l.length < l.length) = false := decide_eq_false hlt
   have HE : Hid (findV l k = .tuple #[itVal it0, .bool false]) := by
        have hf : getI l k = none := getI_none.2 fun x hx => HNO.out x (by rw [List.take_length]; exact hx)
        unfold Hid findV
        rw [hf]
        rfl
   have hCq := (hb.block _ hCl).trans hC
   go_wp2_with (refine wpList_store_row rfl 38 _ _ rfl (w.heap.size + 1) (itCells it0).toArray rfl (by kernel_rfl) 38 C hCq (by kernel_rfl) hCs (by kernel_rfl) ?_)
   refine ret_cell_tmpI 4 5 38 38 (w.heap.size + 1) (itCells it0).toArray _ _ rfl rfl rfl (setRow_heap _ _ _ _ _ _ hCq) Try.underlying38 rfl (by kernel_rfl) rfl ?_
   exact ⟨by rw [HE.out]; rfl, below_setRow (hbW.trans (hb.mono hbW.size)) (by omega) _⟩
set_option maxRecDepth 100000 in
set_option maxHeartbeats 1000000 in
theorem rFind45_any (a : Option Addr) (cap : Nat) (l : List It) (k : Key) (w : World) (hl : l.length ≤ 536870911) (hin : ItsIn w a l) :
 Calls Try.prog 15 #[.slice a l.length cap, keyV k] w (RetFind l k w) := by
 have HF := Lib.hid (fun (X : World) (h : ItsIn X a l) => rFind25_any a cap l k X hl h)
 go_enter Try.func15, Try.ntmps15
 go_upto_region 1 with fail
 refine wp_name (fun W hW => ?_)
 have hb : Below w.heap.size w W := by rw [hW.out]; go_grown
 have hK : KeyAt W w.heap.size k := by rw [hW.out]; exact ⟨by go_simp, by go_simp, by go_simp⟩
 have hk := hK.range
 obtain ⟨C, hC, hCs⟩ : ∃ C : Array Value, W.heap[w.heap.size + 1]? = some (.cells C 38 (0, 0)) ∧ C.size = 11 := ⟨_, by rw [hW.out]; exact heap_last1 w _ _, rfl⟩
 have hinW := hin.kept hb
 clear hW hK
 go_wp2_with (first
  | ((with_reducible refine wpList_load_to 34 _ w.heap.size 0 (keyCs k) (keyV k) rfl _ Try.underlying34 rfl (by kernel_rfl) hk ?_ rfl ?_); exact rfl)
  | (go_at_call 30; refine (HF.out _ hinW).mono ?_; rintro e w2 ⟨rfl, hb2⟩; have hC2 := (hb2.block _ (Array.getElem?_eq_some_iff.1 hC).1).trans hC)
  | (refine wpList_store_row rfl 38 _ _ rfl (w.heap.size + 1) (itCells ((getI l k).getD it0)).toArray rfl rfl 38 C hC2 (by kernel_rfl) hCs (by kernel_rfl) ?_))
 refine ret_cell_tmpI 4 5 38 38 (w.heap.size + 1) (itCells ((getI l k).getD it0)).toArray _ _ rfl rfl rfl (setRow_heap _ _ _ _ _ _ hC2) Try.underlying38 rfl (by kernel_rfl) rfl ?_
 exact ⟨rfl, below_setRow (below2 hb hb2) (by omega) _⟩
end Go.Proofs.Ytohmadchgacafaa
