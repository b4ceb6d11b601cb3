/- The index: view.Put; an item found, put, removed. Conditions: as in the text. -/
import Derived.Test.YtkklcpmbgfgcmaaGreatIxE
set_option linter.unusedSimpArgs false
set_option linter.unusedVariables false
set_option linter.unnecessarySimpa false
namespace Go.Proofs.YtkklcpmbgfgcmaaGreat
open Go.RowKit
variable {lo : Nat}
theorem ins_any (base : Nat) (v : Value) (l : List It) (x : It) (i vb : Nat) (cv : Array Value) (tv : TypeId) (w : World) (hown : w.ownsRow base 27 11 v l.length (itsVals l)) (hi : i ≤ l.length) (hl : l.length ≤ 1073741824) (hbase : base ≤ w.heap.size)
 (hv : w.heap[vb]? = some (.cells cv tv (0, 0))) (hx : w.rangeAt vb 0 (itCells x)) (hvb : ∀ g, v.ownBlock = some g → vb ≠ g) :
 Calls Tryz.prog 34 #[v, .int .i64 i, .slice (some ⟨vb, 0, none⟩) 1 1] w (RetIns base v (l.take i ++ x :: l.drop i) w) := by
 by_cases he : i = l.length
 ·subst he
  rw [List.take_length, List.drop_length]
  exact insEnd_any base v l x vb w hown hl hbase hx
 ·rcases hown.2 with ⟨rfl, hz⟩ | ⟨g, cap, cur, rfl, hbg, hg, r1, r2, r3, r4⟩
  ·omega
  ·by_cases hroom : l.length + 1 ≤ cap
   ·exact insRoom_any base g cap cur l x i vb cv tv w hl (by omega) hroom r2 hbg hg r3 r4 (hvb g rfl) hv hx
   ·exact insGrow_any base g cap cur l x i vb w hl (by omega) (by omega) r1 hbase hg r4 hx
theorem putI_ins {l : List It} {y : It} (h : SrtI l) {k : Nat} (hk : k ≤ (woI l y.key).length) (h1 : ∀ x ∈ (woI l y.key).take k, keyLt x.key y.key = true) (h2 : ∀ x, (woI l y.key)[k]? = some x → keyLt x.key y.key = false) :
 (woI l y.key).take k ++ y :: (woI l y.key).drop k = putI l y := by
 have hs : SrtI (woI l y.key) := woI_srt h
 have hdrop : ∀ x ∈ (woI l y.key).drop k, keyLt y.key x.key = true := fun x hx => by
  have hm : x ∈ woI l y.key := List.mem_of_mem_drop hx
  refine keyLt_total (mem_woI.1 hm).2 ?_
  cases hlt : keyLt x.key y.key with
  | false => rfl
  | true =>
    obtain ⟨j, hj, hjx⟩ := List.mem_drop_iff_getElem.1 hx
    have hk0 : k < (woI l y.key).length := by omega
    have g := h2 _ (List.getElem?_eq_getElem hk0)
    cases j with
    | zero =>
      simp only [Nat.add_zero] at hjx
      rw [hjx, hlt] at g; cases g
    | succ j =>
      have hj' : k + (j + 1) < (woI l y.key).length := by omega
      have hp := List.pairwise_iff_getElem.1 hs k (k + (j + 1)) hk0 hj' (by omega)
      have hjx2 : (woI l y.key)[k + (j + 1)] = x := by rw [← hjx]
      rw [hjx2] at hp
      rw [keyLt_trans hp hlt] at g; cases g
 refine srtI_ext ?_ (putI_srt h) fun x => ?_
 ·refine List.pairwise_append.2 ⟨hs.sublist (List.take_sublist _ _), List.pairwise_cons.2 ⟨hdrop, hs.sublist (List.drop_sublist _ _)⟩, fun a ha z hz => ?_⟩
  rcases List.mem_cons.1 hz with rfl | hz
  ·exact h1 a ha
  ·exact keyLt_trans (h1 a ha) (hdrop z hz)
 ·rw [mem_putI, List.mem_append, List.mem_cons, ← mem_woI]
  constructor
  ·rintro (g | g | g)
   ·exact Or.inr (List.mem_of_mem_take g)
   ·exact Or.inl g
   ·exact Or.inr (List.mem_of_mem_drop g)
  ·rintro (g | g)
   ·exact Or.inr (Or.inl g)
   ·rw [← List.take_append_drop k (woI l y.key)] at g
    exact (List.mem_append.1 g).imp id fun g => Or.inr g
set_option maxRecDepth 100000 in
set_option maxHeartbeats 4000000 in
theorem vPut_any (a : Option Addr) (cap : Nat) (l : List It) (y : It) (w : World) (hl : l.length ≤ 1073741823) (hs : SrtI l) (hin : ItsIn w a l) :
 Calls Tryz.prog 20 #[.slice a l.length cap, itVal y] w (RetIts (putI l y) w) := by
 have HWL : Hid ((woI l y.key).length ≤ 1073741823) := by
  have := List.length_filter_le (fun x : It => decide (x.key ≠ y.key)) l
  unfold Hid woI
  omega
 have HPI := Lib.hid (fun (k : Nat) => putI_ins (y := y) hs (k := k))
 have HPL : Hid ((putI l y).length = (woI l y.key).length + 1) := by
  have h5 := HPI.out 0 (Nat.zero_le _)
  unfold Hid
  have h6 : (putI l y).Perm (y :: woI l y.key) := (List.perm_ext_iff_of_nodup (srtI_nodup (putI_srt hs)) (List.nodup_cons.2 ⟨fun hm => (mem_woI.1 hm).2 rfl, srtI_nodup (woI_srt hs)⟩)).2 fun z => by rw [mem_putI, List.mem_cons, mem_woI]
  rw [h6.length_eq, List.length_cons]
 have HC0 := Lib.hid (fun (X : World) (h : ItsIn X a l) => vWithout_any a cap l y.key X (by omega) h)
 go_enter Tryz.func20, Tryz.ntmps20
 go_upto_region 1 with fail
 refine wp_name (fun W hW => ?_)
 have hb : Below w.heap.size w W := by rw [hW.out]; go_grown
 have hy : W.rangeAt w.heap.size 0 (itCells y) := by rw [hW.out]; exact itCells_box y w _
 have hyk := range_keyCs hy
 have hinW := hin.kept hb
 have hzW : w.heap.size < W.heap.size := by rw [hW.out]; simp
 clear hW
 go_upto_region 2 with (first
  | ((with_reducible refine wpList_load_to 23 _ w.heap.size 0 (keyCs y.key) (keyV y.key) rfl _ Tryz.underlying23 rfl (by kernel_rfl) hyk ?_ rfl ?_); exact rfl)
  | (go_at_call 21; refine (HC0.out _ hinW).mono ?_; rintro e w1 ⟨v0, rfl, hown, hb1⟩))
 obtain ⟨a1, cap1, rfl, hin1, hcap1⟩ := own_cellsIn hown
 have hy1 := rangeAt_kept hy hb1
 have hbw : Below w.heap.size w w1 := below2 hb hb1
 have hown := own_low hown hb.size
 have hzw : w.heap.size < w1.heap.size := Nat.lt_of_lt_of_le hzW hb1.size
 have HCAP := Lib.hid hcap1
 clear hinW hy hyk hb hb1 hzW hcap1 HC0
 obtain ⟨L, hL⟩ : ∃ L, L = woI l y.key := ⟨_, rfl⟩
 have HL := Lib.hid hL
 rw [← hL] at hown hin1 HWL HPL ⊢
 clear hL
 go_wp2
 go_loopw [6] (fun i wr => ∃ k : Nat, i = .int .i64 k ∧ k ≤ L.length ∧ (∀ x ∈ L.take k, keyLt x.key y.key = true) ∧ Below w1.heap.size w1 wr) (fun i _ => L.length - (intOf i).toNat)
 case atStart => exact ⟨0, rfl, Nat.zero_le _, fun x hx => (by simp at hx), Below.refl _ _⟩
 have HOW : Hid (∀ q, (Value.slice a1 L.length cap1).ownBlock = some q → w.heap.size ≤ q) := Lib.hid fun q hq => (hown.lt q hq).1
 case round =>
  obtain ⟨k, rfl, hk, hall, hbr⟩ := hrel
  have HA := Lib.hid hall
  have hkb : k ≤ 1073741823 := by have := HWL.out; omega
  have hbwr : Below w.heap.size w wr := hbw.trans (hbr.mono hbw.size)
  have hyr := rangeAt_kept hy1 hbr
  have hykr := range_keyCs hyr
  have hinr := CellsIn.kept hin1 hbr
  have hzr : w.heap.size < wr.heap.size := Nat.lt_of_lt_of_le hzw hbr.size
  clear hall
  by_cases hlt : k < L.length
  ·obtain ⟨A, off, rfl, hr⟩ := ItsIn.at hinr hlt
   have hrk := range_keyCs hr
   have hK := fun (X : World) => keyLess_any L[k].key y.key X
   have HT : Hid (L.take (k + 1) = L.take k ++ [L[k]]) := List.take_succ_eq_append_getElem hlt
   have HG : Hid (L[k]? = some L[k]) := List.getElem?_eq_getElem hlt
   have HLT := Lib.hid hlt
   have hdk : decide (k < L.length) = true := by simp; omega
   generalize L[k] = z at *
   cases hz : keyLt z.key y.key with
   | true =>
     rw [hz] at hK
     have HK := Lib.hid hK
     have HZ := Lib.hid hz
     clear hK hz hr
     go_upto_region 3 with fail
     refine wp_region_after (by kernel_rfl) (by kernel_rfl) (fun WA hWA => ?_)
     have hbA : Below wr.heap.size wr WA := by rw [hWA.out]; go_grown
     have p0 := rangeAt_kept hrk hbA
     have p1 := rangeAt_kept hykr hbA
     clear hWA hrk hykr
     go_big_quiet_step (fail)
     go_big_quiet_step (fail)
     go_big_quiet_step (fail)
     go_big_quiet_step (fail)
     go_big_quiet_step (fail)
     go_big_quiet_step (fail)
     go_big_quiet_step (fail)
     go_big_quiet_step (fail)
     go_big_quiet_step (fail)
     ((with_reducible refine wpQuiet_load_to 23 _ A (off + k * 11) (keyCs z.key) (keyV z.key) rfl _ Tryz.underlying23 rfl (by kernel_rfl) p0 ?_ rfl ?_); exact rfl; go_simp)
     go_big_quiet_step (fail)
     ((with_reducible refine wpQuiet_load_to 23 _ w.heap.size 0 (keyCs y.key) (keyV y.key) rfl _ Tryz.underlying23 rfl (by kernel_rfl) p1 ?_ rfl ?_); exact rfl; go_simp)
     go_big_quiet_step (exact Calls.after (HK.out _))
     go_big_quiet_step (fail)
     refine wpQuiet_nil ?_
     first
      | rintro _ ⟨i, rfl⟩
      | intro i
     have hiA := i.h
     generalize i.w = wq at hiA ⊢
     have hbq : Below wr.heap.size wr wq := below2 hbA hiA
     clear hbA hiA
     clear p0 p1
     go_wp2
     go_roundw
     case rel => exact ⟨k + 1, by go_num, HLT.out, fun x hx => by
      rw [HT.out] at hx
      rcases List.mem_append.1 hx with hx | hx
      ·exact HA.out x hx
      ·rw [List.mem_singleton.1 hx]; exact HZ.out, hbr.trans (hbq.mono hbr.size)⟩
     case measure => have := HLT.out; simp [intOf]; omega
   | false =>
     rw [hz] at hK
     have HK := Lib.hid hK
     have HPE : Hid (L.take k ++ y :: L.drop k = putI l y) := Lib.hid (by
      have h7 := HPI.out k
      rw [← HL.out] at h7
      exact h7 (Nat.le_of_lt HLT.out) HA.out (fun x hx => by rw [HG.out] at hx; cases hx; exact hz))
     clear hK hz hr
     go_upto_region 3 with fail
     refine wp_region_after (by kernel_rfl) (by kernel_rfl) (fun WA hWA => ?_)
     have hbA : Below wr.heap.size wr WA := by rw [hWA.out]; go_grown
     have p0 := rangeAt_kept hrk hbA
     have p1 := rangeAt_kept hykr hbA
     clear hWA hrk
     go_big_quiet_step (fail)
     go_big_quiet_step (fail)
     go_big_quiet_step (fail)
     go_big_quiet_step (fail)
     go_big_quiet_step (fail)
     go_big_quiet_step (fail)
     go_big_quiet_step (fail)
     go_big_quiet_step (fail)
     go_big_quiet_step (fail)
     ((with_reducible refine wpQuiet_load_to 23 _ A (off + k * 11) (keyCs z.key) (keyV z.key) rfl _ Tryz.underlying23 rfl (by kernel_rfl) p0 ?_ rfl ?_); exact rfl; go_simp)
     go_big_quiet_step (fail)
     ((with_reducible refine wpQuiet_load_to 23 _ w.heap.size 0 (keyCs y.key) (keyV y.key) rfl _ Tryz.underlying23 rfl (by kernel_rfl) p1 ?_ rfl ?_); exact rfl; go_simp)
     go_big_quiet_step (exact Calls.after (HK.out _))
     go_big_quiet_step (fail)
     refine wpQuiet_nil ?_
     first
      | rintro _ ⟨i, rfl⟩
      | intro i
     have hiA := i.h
     generalize i.w = wq at hiA ⊢
     have hbq : Below wr.heap.size wr wq := below2 hbA hiA
     clear hbA hiA
     clear p0 p1
     have hwl := HWL.out
     have hbF : Below w1.heap.size w1 wq := hbr.trans (hbq.mono hbr.size)
     have hyq := rangeAt_kept hyr hbq
     have hownq := ownsRow_below hown hbF
     have hbz := hbw.size
     have hqz := hbF.size
     have HBW := Lib.hid (hbw.trans (hbF.mono hbw.size))
     have HIN := Lib.hid (fun (X : World) (h : Below wq.heap.size wq X) (hr : X.rangeAt wq.heap.size 0 (itCells y)) (hc : X.heap[wq.heap.size]? = some (.cells (itCells y).toArray 27 (0, 0))) => ins_any w.heap.size _ L y k wq.heap.size _ _ X (ownsRow_below hownq h) (by omega) (by omega) (Nat.le_trans hbz (Nat.le_trans hqz h.size)) hc hr (fun g hg e => by have := (hownq.lt g hg).2; omega))
     clear hbr hbq hbwr hyr hykr hinr hbF hown hownq hin1
     go_wp2_with (first
      | ((with_reducible refine wpList_load_to 27 _ w.heap.size 0 (itCells y) (itVal y) rfl _ Tryz.underlying27 rfl (by kernel_rfl) hyq ?_ rfl ?_); exact rfl)
      | (refine wpList_build1I rfl 31 27 _ rfl (itCells y).toArray 11 rfl rfl (by decide) (by decide) Tryz.underlying31 (by kernel_rfl) (by kernel_rfl) ?_)
      | (go_at_call 34; refine (HIN.out _ ((Below.refl _ _).alloc (Nat.le_refl _) _) (itCells_box y wq _) (heap_last0 _ _)).mono ?_; rintro e w9 ⟨v9, rfl, hown9, hfr9⟩))
     all_goals
      go_ret
      have hal : Below wq.heap.size wq (wq.alloc (.cells (itCells y).toArray 27)) := (Below.refl _ _).alloc (Nat.le_refl _) _
      have hbel := (HBW.out.trans (hal.mono (Nat.le_trans hbz hqz))).trans (hfr9.below (Nat.le_trans hbz (Nat.le_trans hqz hal.size)) (fun q hq => HOW.out q hq))
      exact ⟨v9, rfl, by rw [← HPE.out]; exact hown9, hbel⟩
  ·obtain rfl : k = L.length := by omega
   have hdk : decide (L.length < L.length) = false := by simp
   have HPE : Hid (L.take L.length ++ y :: L.drop L.length = putI l y) := Lib.hid (by
        have h7 := HPI.out L.length
        rw [← HL.out] at h7
        exact h7 (Nat.le_refl _) HA.out (fun x hx => by simp at hx))
   clear hlt
   go_upto_region 3 with fail
   refine wp_region_after (by kernel_rfl) (by kernel_rfl) (fun WA hWA => ?_)
   have hbA : Below wr.heap.size wr WA := by rw [hWA.out]; go_grown
   clear hWA 
   go_big_quiet_step (fail)
   go_big_quiet_step (fail)
   go_big_quiet_step (fail)
   go_big_quiet_step (fail)
   go_big_quiet_step (fail)
   go_big_quiet_step (fail)
   go_big_quiet_step (fail)
   go_big_quiet_step (fail)
   go_big_quiet_step (fail)
   go_big_quiet_step (fail)
   go_big_quiet_step (fail)
   go_big_quiet_step (fail)
   go_big_quiet_step (fail)
   go_big_quiet_step (fail)
   refine wpQuiet_nil ?_
   first
        | rintro _ ⟨i, rfl⟩
        | intro i
   have hiA := i.h
   generalize i.w = wq at hiA ⊢
   have hbq : Below wr.heap.size wr wq := below2 hbA hiA
   clear hbA hiA
   have hwl := HWL.out
   have hbF : Below w1.heap.size w1 wq := hbr.trans (hbq.mono hbr.size)
   have hyq := rangeAt_kept hyr hbq
   have hownq := ownsRow_below hown hbF
   have hbz := hbw.size
   have hqz := hbF.size
   have HBW := Lib.hid (hbw.trans (hbF.mono hbw.size))
   have HIN := Lib.hid (fun (X : World) (h : Below wq.heap.size wq X) (hr : X.rangeAt wq.heap.size 0 (itCells y)) (hc : X.heap[wq.heap.size]? = some (.cells (itCells y).toArray 27 (0, 0))) => ins_any w.heap.size _ L y L.length wq.heap.size _ _ X (ownsRow_below hownq h) (by omega) (by omega) (Nat.le_trans hbz (Nat.le_trans hqz h.size)) hc hr (fun g hg e => by have := (hownq.lt g hg).2; omega))
   clear hbr hbq hbwr hyr hykr hinr hbF hown hownq hin1
   go_wp2_with (first
        | ((with_reducible refine wpList_load_to 27 _ w.heap.size 0 (itCells y) (itVal y) rfl _ Tryz.underlying27 rfl (by kernel_rfl) hyq ?_ rfl ?_); exact rfl)
        | (refine wpList_build1I rfl 31 27 _ rfl (itCells y).toArray 11 rfl rfl (by decide) (by decide) Tryz.underlying31 (by kernel_rfl) (by kernel_rfl) ?_)
        | (go_at_call 34; refine (HIN.out _ ((Below.refl _ _).alloc (Nat.le_refl _) _) (itCells_box y wq _) (heap_last0 _ _)).mono ?_; rintro e w9 ⟨v9, rfl, hown9, hfr9⟩))
   all_goals
        go_ret
        have hal : Below wq.heap.size wq (wq.alloc (.cells (itCells y).toArray 27)) := (Below.refl _ _).alloc (Nat.le_refl _) _
        have hbel := (HBW.out.trans (hal.mono (Nat.le_trans hbz hqz))).trans (hfr9.below (Nat.le_trans hbz (Nat.le_trans hqz hal.size)) (fun q hq => HOW.out q hq))
        exact ⟨v9, rfl, by rw [← HPE.out]; exact hown9, hbel⟩
end Go.Proofs.YtkklcpmbgfgcmaaGreat
