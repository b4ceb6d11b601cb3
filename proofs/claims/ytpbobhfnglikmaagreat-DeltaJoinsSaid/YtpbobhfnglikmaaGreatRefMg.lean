/- The reference's Merge, walked. Conditions: as in the text. -/
import Derived.Test.YtpbobhfnglikmaaGreatRefR
set_option linter.unusedSimpArgs false
set_option linter.unusedVariables false
set_option linter.unnecessarySimpa false
set_option maxHeartbeats 16000000
set_option maxRecDepth 100000
namespace Go.Proofs.YtpbobhfnglikmaaGreat
open Go.RowKit
/-- one event more that is merged in: the map, how many were applied, the first error -/
def mgStep (t : RM × Nat × Int) (e : Ev) : RM × Nat × Int := (rmAp t.1 e, if rmOk t.1 e = true then t.2.1 + 1 else t.2.1, if t.2.2 = 0 then rmErr t.1 e else t.2.2)
theorem mgStep_fst : ∀ (l : List Ev) (t : RM × Nat × Int), (l.foldl mgStep t).1 = l.foldl rmAp t.1
 | [], _ => rfl
 | e :: l, t => by rw [List.foldl_cons, List.foldl_cons, mgStep_fst l]; rfl
def RetRMg (r : RM) (l : List Ev) (w : World) (e : Ending) (w' : World) : Prop := ∃ y n f, e = .returned (.tuple #[rmVal y, .int .i64 (n : Nat), .int .i64 f]) ∧ RMIn w' y ∧ l.foldl mgStep (r, 0, 0) = (y.rm, n, f) ∧ Below w.heap.size w w'
theorem rMerge22_any (y0 : RMIt) (a : Option Addr) (cap : Nat) (ls : List EvIt) (w : World) (n0 : Nat) (hg : RMGood y0.rm n0) (hl : n0 + ls.length ≤ 4095) (hI : RMIn w y0) (hE : EvsIn w a ls) (hsm : EvsSmall ls) :
 Calls Tryz.prog 50 #[rmVal y0, .slice a ls.length cap] w (RetRMg y0.rm (evsOf ls) w) := by
 go_enter Tryz.func50, Tryz.ntmps50
 go_upto_region 1 with fail
 refine wp_name (fun W0 hW0 => ?_)
 have hb0 : Below w.heap.size w W0 := by rw [hW0.out]; go_grown
 have hA0 : RMAt W0 w.heap.size y0 := by
  rw [hW0.out]
  exact (((Below.refl _ _).alloc (Nat.le_refl _) _).block _ (by simp)).trans (heap_last0 _ _)
 have hZ : W0.heap[w.heap.size + 1]? = some (.cells #[.slice none 0 0, .slice none 0 0, .slice none 0 0] 31 (0, 0)) := by
  rw [hW0.out]
  exact heap_last1 _ _ _
 have hI0 := hI.keep hb0
 have hz0 := hb0.size
 have HSM := Lib.hid hsm
 have HG := Lib.hid hg
 clear hW0 hsm hI hg
 go_wp2
 go_loopw [7, 8, 9] (fun vn vf i wr => ∃ (k : Nat) (y : RMIt) (n : Nat) (f : Int), vn = .int .i64 (n : Nat) ∧ vf = .int .i64 f ∧ i = .int .i64 k ∧ k ≤ ls.length ∧ RMAt wr w.heap.size y ∧ RMIn wr y ∧ ((evsOf ls).take k).foldl mgStep (y0.rm, 0, 0) = (y.rm, n, f) ∧ n ≤ k ∧ wr.heap[w.heap.size + 1]? = some (.cells #[.slice none 0 0, .slice none 0 0, .slice none 0 0] 31 (0, 0)) ∧ Below w.heap.size w wr) (fun _ _ i _ => ls.length - (intOf i).toNat)
 case atStart => exact ⟨0, y0, 0, 0, rfl, rfl, rfl, Nat.zero_le _, hA0, hI0, rfl, Nat.le_refl _, hZ, hb0⟩
 case round =>
  obtain ⟨k, y, n, f, rfl, rfl, rfl, hk, hAt, hIn, hY, hnk, hZr, hbw⟩ := hrel
  have HY := Lib.hid hY
  obtain ⟨c0, c1, c2⟩ := hAt.cells
  clear hA0 hI0 hZ hb0 hY
  by_cases hlt : k < ls.length
  ·obtain ⟨A, off, rfl, hra, hda⟩ := (hE.kept hbw).at hlt
   have r1 := hra k hlt
   have hse := HSM.out _ (List.getElem_mem hlt)
   have HT : Hid ((evsOf ls).take (k + 1) = (evsOf ls).take k ++ [ls[k].1]) := by
        unfold Hid
        rw [List.take_add_one, List.getElem?_eq_getElem (by rw [evsOf_length]; exact hlt), evsOf_at hlt]
        rfl
   have HLT := Lib.hid hlt
   have hkl : k ≤ 4095 := by omega
   generalize ls[k] = x at *
   obtain ⟨e, ax, cx⟩ := x
   simp only [itEv] at r1
   simp only at hda hse HT
   have hgood : RMGood y.rm (n0 + k) := by
        have h9 := HG.out.fold ((evsOf ls).take k)
        have h8 := mgStep_fst ((evsOf ls).take k) (y0.rm, 0, 0)
        rw [HY.out] at h8
        rw [← show y.rm = _ from h8, List.length_take, evsOf_length, Nat.min_eq_left hk] at h9
        exact h9
   have HAp := Lib.hid (fun (X : World) (hIn : RMIn X y) (hd : DotsIn X ax e.over) => show Calls Tryz.prog 16 #[rmVal y, .agg (evCells e ax cx).toArray] X (RetRA y.rm e X) from rApply_any y e ax cx X hIn (hgood.size (by omega)) hse hd)
   have HS : Hid (((evsOf ls).take (k + 1)).foldl mgStep (y0.rm, 0, 0) = (rmAp y.rm e, if rmOk y.rm e = true then n + 1 else n, if f = 0 then rmErr y.rm e else f)) := by
        unfold Hid
        rw [HT.out, List.foldl_append, HY.out]
        rfl
   clear hra hgood hse
   go_upto_region 6 with fail
   refine wp_name (fun V hV => ?_)
   have hbV : Below wr.heap.size wr V.drew := by rw [hV.out]; go_grown
   have vC0 := kept hbV c0
   have vC1 := kept hbV c1
   have vC2 := kept hbV c2
   have vR := rangeAt_kept r1 hbV
   have vI := hIn.keep hbV
   have vd := hda.kept hbV
   have vA := hAt.kept hbV
   have hbwV : Below w.heap.size w V.drew := hbw.trans (hbV.mono hbw.size)
   have vZ := (hbV.block _ (lt_of_block hZr)).trans hZr
   have hlo : w.heap.size + 1 < V.drew.heap.size := lt_of_block vZ
   clear hV hbV hIn hAt hZr c0 c1 c2 r1 hda hbw
   refine wp_region_noPanic ?_
   refine wp_region_held_drew (S := fun W' => Below V.drew.heap.size V.drew W') (by kernel_rfl) (Below.refl _ _) (fun hHeld => ?_)
   refine tH (v := ?_) 0 20 rfl (Or.inl ⟨by rfl, ?_⟩) ?_
   case refine_2 => (intro w hSw; have sC0 := kept hSw vC0; have sC1 := kept hSw vC1; have sC2 := kept hSw vC2; go_simp; try with_reducible rfl)
   try simp only [pS]
   refine tH (v := ?_) 1 21 rfl (Or.inl ⟨by rfl, ?_⟩) ?_
   case refine_2 => (intro w hSw; have sC0 := kept hSw vC0; have sC1 := kept hSw vC1; have sC2 := kept hSw vC2; go_simp; try with_reducible rfl)
   try simp only [pS]
   refine tH (v := ?_) 2 22 rfl (Or.inl ⟨by rfl, ?_⟩) ?_
   case refine_2 => (intro w hSw; have sC0 := kept hSw vC0; have sC1 := kept hSw vC1; have sC2 := kept hSw vC2; go_simp; try with_reducible rfl)
   try simp only [pS]
   refine tH (v := ?_) 3 23 rfl (Or.inl ⟨by rfl, ?_⟩) ?_
   case refine_2 => (intro w hSw; have sC0 := kept hSw vC0; have sC1 := kept hSw vC1; have sC2 := kept hSw vC2; go_simp; try with_reducible rfl)
   try simp only [pS]
   refine tH 4 24 rfl (yieldsIf_load_mid (by rfl) 43 _ rfl A (off + k * 19) rfl (evCells e ax cx) _ (fun X h => rangeAt_kept vR h) Tryz.underlying43 rfl (by kernel_rfl)) ?_
   try simp only [pS]
   refine wpAnyH_ready (rs := [5, 10]) (by kernel_rfl) (by simp) ?_
   refine AllReadyH.cons (o := ⟨some 25, _, _, _, _, _⟩) rfl (fun K hK => ?_) (AllReadyH.cons (o := ⟨some 10, _, _, _, _, _⟩) rfl (fun K hK => ?_) AllReadyH.nil)
   ·skip
    go_simp
    go_at_call 16
    (with_reducible refine (HAp.out _ (vI.keep hHeld) (vd.kept hHeld)).mono ?_)
    rintro v w5 ⟨z, rfl, hz5, hzr, hb5⟩
    go_simp
    have hNext := hHeld.trans (hb5.mono hHeld.size)
    refine hK.out _ _ hNext (fun hHeld2 => ?_)
    clear hK K hHeld
    have hHeld := hNext
    clear hHeld2 hNext
    try simp only [pS]
    refine tH (v := ?_) 6 19 rfl (Or.inl ⟨by rfl, ?_⟩) ?_
    case refine_2 => (intro w hSw; go_simp; try with_reducible rfl)
    try simp only [pS]
    refine tH (v := ?_) 7 26 rfl (Or.inl ⟨by rfl, ?_⟩) ?_
    case refine_2 => (intro w hSw; go_simp; try with_reducible rfl)
    try simp only [pS]
    refine tH (v := ?_) 8 27 rfl (Or.inl ⟨by rfl, ?_⟩) ?_
    case refine_2 => (intro w hSw; go_simp; try with_reducible rfl)
    try simp only [pS]
    refine tH (v := ?_) 9 28 rfl (Or.inl ⟨by rfl, ?_⟩) ?_
    case refine_2 => (intro w hSw; go_simp; try with_reducible rfl)
    try simp only [pS]
    refine rH 10 10 rfl fun K hK => ?_
    have hz59 := hHeld.size
    go_simp
    have hNext := hHeld.alloc hHeld.size (.cells #[.slice none 0 0, .slice none 0 0, .slice none 0 0] 31)
    refine hK.out _ _ hNext (fun hHeld2 => ?_)
    clear hK K hHeld
    have hHeld := hNext
    clear hHeld2 hNext
    try simp only [pS]
    refine wpAnyH_ready (rs := [11]) (by kernel_rfl) (by simp) ?_
    refine AllReadyH.cons (o := ⟨none, _, _, _, _, _⟩) rfl (fun K hK => ?_) AllReadyH.nil
    have hq0 : (w5.alloc (.cells #[.slice none 0 0, .slice none 0 0, .slice none 0 0] 31)).heap[w5.heap.size]? = some (.cells #[.slice none 0 0, .slice none 0 0, .slice none 0 0] 31 (0, 0)) := heap_last0 _ _
    refine step_store_row (by rfl) 31 _ _ rfl (w5.heap.size) #[.slice z.ac z.ctx.length z.cc, .slice z.aK z.K.length z.cK, .slice z.ad z.dead.length z.cd] rfl rfl 31 _ hq0 (by kernel_rfl) rfl (by kernel_rfl) ?_
    have hNext : Below V.drew.heap.size V.drew ((w5.alloc (.cells #[.slice none 0 0, .slice none 0 0, .slice none 0 0] 31)).setRow (w5.heap.size) #[.slice z.ac z.ctx.length z.cc, .slice z.aK z.K.length z.cK, .slice z.ad z.dead.length z.cd]) := below_setRow hHeld (by omega : V.drew.heap.size ≤ w5.heap.size) #[.slice z.ac z.ctx.length z.cc, .slice z.aK z.K.length z.cK, .slice z.ad z.dead.length z.cd]
    refine hK.out _ _ hNext (fun hHeld2 => ?_)
    clear hK K hHeld
    have hHeld := hNext
    clear hHeld2 hNext
    try simp only [pS]
    refine tH (v := ?_) 12 11 rfl (Or.inl ⟨by rfl, ?_⟩) ?_
    case refine_2 => (intro w hSw; go_simp; try with_reducible rfl)
    try simp only [pS]
    refine tH (v := ?_) 13 12 rfl (Or.inl ⟨by rfl, ?_⟩) ?_
    case refine_2 => (intro w hSw; go_simp; try with_reducible rfl)
    try simp only [pS]
    refine wpAnyH_done (by kernel_rfl) ?_ _
    refine NoPanic.normal ?_
    obtain ⟨X, hX⟩ : ∃ X, X = (w5.alloc (.cells #[.slice none 0 0, .slice none 0 0, .slice none 0 0] 31)).setRow (w5.heap.size) #[.slice z.ac z.ctx.length z.cc, .slice z.aK z.K.length z.cK, .slice z.ad z.dead.length z.cd] := ⟨_, rfl⟩
    rw [← hX] at hHeld ⊢
    have hqX : RMAt X (w5.heap.size) z := by rw [hX]; exact setRow_heap _ _ _ _ _ _ hq0
    have hzX : RMIn X z := by
     rw [hX]
     exact RMIn.not3 (R := w5.heap.size) (hz5.keep ((Below.refl _ _).alloc (Nat.le_refl _) _)) ⟨_, _, _, _, _, _, _, _, _, _, _, hq0⟩ (fun k9 hk9 => heap_setRow_other _ _ _ _ (fun e9 => hk9 e9.symm))
    generalize hqn : w5.heap.size = q at *
    clear hX hq0 hqn
    obtain ⟨d0, d1, d2⟩ := hqX.cells
    have xA : RMAt X w.heap.size y := (hHeld.block _ (by omega)).trans vA
    have xZ := (hHeld.block (w.heap.size + 1) hlo).trans vZ
    have HX := Lib.hid (And.intro hzX (And.intro xA (And.intro xZ (And.intro hbwV (And.intro hHeld hlo)))))
    have hx3 := xA
    have HZR := Lib.hid hzr
    clear hzX xZ vA vI vd vZ vR vC0 vC1 vC2 hqX xA hlo hbwV hHeld hb5 hz5 hzr
    unfold RMAt at hx3
    go_upto_region 8 with (refine wpList_store_row rfl 31 _ _ rfl w.heap.size #[.slice z.ac z.ctx.length z.cc, .slice z.aK z.K.length z.cK, .slice z.ad z.dead.length z.cd] rfl rfl 31 _ hx3 (by kernel_rfl) rfl (by kernel_rfl) ?_)
    have HF : Hid (RMAt (X.setRow w.heap.size #[.slice z.ac z.ctx.length z.cc, .slice z.aK z.K.length z.cK, .slice z.ad z.dead.length z.cd]) w.heap.size z ∧ RMIn (X.setRow w.heap.size #[.slice z.ac z.ctx.length z.cc, .slice z.aK z.K.length z.cK, .slice z.ad z.dead.length z.cd]) z ∧ (X.setRow w.heap.size #[.slice z.ac z.ctx.length z.cc, .slice z.aK z.K.length z.cK, .slice z.ad z.dead.length z.cd]).heap[w.heap.size + 1]? = some (.cells #[.slice none 0 0, .slice none 0 0, .slice none 0 0] 31 (0, 0)) ∧ Below w.heap.size w (X.setRow w.heap.size #[.slice z.ac z.ctx.length z.cc, .slice z.aK z.K.length z.cK, .slice z.ad z.dead.length z.cd])) := by
     obtain ⟨hzX, xA, xZ, hbwV, hHeld, hlo⟩ := HX.out
     exact ⟨setRow_heap _ _ _ _ _ _ hx3, RMIn.not3 (R := w.heap.size) hzX xA.sl3 (fun k9 hk9 => heap_setRow_other _ _ _ _ (fun e9 => hk9 e9.symm)), (heap_setRow_other _ _ _ _ (by omega)).trans xZ, below_setRow (hbwV.trans (hHeld.mono (by omega))) (Nat.le_refl _) _⟩
    clear hx3 d0 d1 d2 HX
    generalize X.setRow w.heap.size #[.slice z.ac z.ctx.length z.cc, .slice z.aK z.K.length z.cK, .slice z.ad z.dead.length z.cd] = wf at *
    have hS9 := HS.out
    rw [← HZR.out] at hS9
    generalize rmOk y.rm e = ok at *
    generalize rmErr y.rm e = er at *
    cases ok with
    | false =>
      simp only [Bool.false_eq_true, if_false, if_true] at hS9
      by_cases hf0 : f = 0
      ·have hfb : (f == 0) = true := beq_iff_eq.2 hf0
       rw [if_pos hf0] at hS9
       have HS9 := Lib.hid hS9
       clear hS9 hf0
       go_wp2
       go_roundw
       case rel => exact ⟨k + 1, z, n, er, rfl, rfl, by go_num, HLT.out, HF.out.1, HF.out.2.1, HS9.out, by omega, HF.out.2.2.1, HF.out.2.2.2⟩
       case measure => have := HLT.out; simp [intOf] <;> omega
      ·have hfb : (f == 0) = false := beq_eq_false_iff_ne.2 hf0
       rw [if_neg hf0] at hS9
       have HS9 := Lib.hid hS9
       clear hS9 hf0
       go_wp2
       go_roundw
       case rel => exact ⟨k + 1, z, n, f, rfl, rfl, by go_num, HLT.out, HF.out.1, HF.out.2.1, HS9.out, by omega, HF.out.2.2.1, HF.out.2.2.2⟩
       case measure => have := HLT.out; simp [intOf] <;> omega
    | true =>
      simp only [Bool.false_eq_true, if_false, if_true] at hS9
      by_cases hf0 : f = 0
      ·have hfb : (f == 0) = true := beq_iff_eq.2 hf0
       rw [if_pos hf0] at hS9
       have HS9 := Lib.hid hS9
       clear hS9 hf0
       go_wp2
       go_roundw
       case rel => exact ⟨k + 1, z, (n + 1), er, by go_num, rfl, by go_num, HLT.out, HF.out.1, HF.out.2.1, HS9.out, by omega, HF.out.2.2.1, HF.out.2.2.2⟩
       case measure => have := HLT.out; simp [intOf] <;> omega
      ·have hfb : (f == 0) = false := beq_eq_false_iff_ne.2 hf0
       rw [if_neg hf0] at hS9
       have HS9 := Lib.hid hS9
       clear hS9 hf0
       go_wp2
       go_roundw
       case rel => exact ⟨k + 1, z, (n + 1), f, by go_num, rfl, by go_num, HLT.out, HF.out.1, HF.out.2.1, HS9.out, by omega, HF.out.2.2.1, HF.out.2.2.2⟩
       case measure => have := HLT.out; simp [intOf] <;> omega
   ·skip
    go_simp
    have hNext := hHeld.alloc hHeld.size (.cells #[.slice none 0 0, .slice none 0 0, .slice none 0 0] 31)
    refine hK.out _ _ hNext (fun hHeld2 => ?_)
    clear hK K hHeld
    have hHeld := hNext
    clear hHeld2 hNext
    try simp only [pS]
    replace hHeld : Below V.drew.heap.size V.drew (V.alloc (.cells #[.slice none 0 0, .slice none 0 0, .slice none 0 0] 31)).drew := hHeld
    refine rH 5 25 rfl fun K hK => ?_
    go_simp
    go_at_call 16
    (with_reducible refine (HAp.out _ (vI.keep hHeld) (vd.kept hHeld)).mono ?_)
    rintro v w5 ⟨z, rfl, hz5, hzr, hb5⟩
    go_simp
    have hNext := hHeld.trans (hb5.mono hHeld.size)
    refine hK.out _ _ hNext (fun hHeld2 => ?_)
    clear hK K hHeld
    have hHeld := hNext
    clear hHeld2 hNext
    try simp only [pS]
    refine tH (v := ?_) 6 19 rfl (Or.inl ⟨by rfl, ?_⟩) ?_
    case refine_2 => (intro w hSw; go_simp; try with_reducible rfl)
    try simp only [pS]
    refine tH (v := ?_) 7 26 rfl (Or.inl ⟨by rfl, ?_⟩) ?_
    case refine_2 => (intro w hSw; go_simp; try with_reducible rfl)
    try simp only [pS]
    refine tH (v := ?_) 8 27 rfl (Or.inl ⟨by rfl, ?_⟩) ?_
    case refine_2 => (intro w hSw; go_simp; try with_reducible rfl)
    try simp only [pS]
    refine tH (v := ?_) 9 28 rfl (Or.inl ⟨by rfl, ?_⟩) ?_
    case refine_2 => (intro w hSw; go_simp; try with_reducible rfl)
    try simp only [pS]
    refine wpAnyH_ready (rs := [11]) (by kernel_rfl) (by simp) ?_
    refine AllReadyH.cons (o := ⟨none, _, _, _, _, _⟩) rfl (fun K hK => ?_) AllReadyH.nil
    have hq0 : w5.heap[V.heap.size]? = some (.cells #[.slice none 0 0, .slice none 0 0, .slice none 0 0] 31 (0, 0)) := (hb5.block V.drew.heap.size (by show V.heap.size < (V.heap.push _).size; simp)).trans (heap_last0 V _)
    refine step_store_row (by rfl) 31 _ _ rfl (V.heap.size) #[.slice z.ac z.ctx.length z.cc, .slice z.aK z.K.length z.cK, .slice z.ad z.dead.length z.cd] rfl rfl 31 _ hq0 (by kernel_rfl) rfl (by kernel_rfl) ?_
    have hNext : Below V.drew.heap.size V.drew (w5.setRow (V.heap.size) #[.slice z.ac z.ctx.length z.cc, .slice z.aK z.K.length z.cK, .slice z.ad z.dead.length z.cd]) := below_setRow hHeld (Nat.le_refl _ : V.drew.heap.size ≤ V.heap.size) #[.slice z.ac z.ctx.length z.cc, .slice z.aK z.K.length z.cK, .slice z.ad z.dead.length z.cd]
    refine hK.out _ _ hNext (fun hHeld2 => ?_)
    clear hK K hHeld
    have hHeld := hNext
    clear hHeld2 hNext
    try simp only [pS]
    refine tH (v := ?_) 12 11 rfl (Or.inl ⟨by rfl, ?_⟩) ?_
    case refine_2 => (intro w hSw; go_simp; try with_reducible rfl)
    try simp only [pS]
    refine tH (v := ?_) 13 12 rfl (Or.inl ⟨by rfl, ?_⟩) ?_
    case refine_2 => (intro w hSw; go_simp; try with_reducible rfl)
    try simp only [pS]
    refine wpAnyH_done (by kernel_rfl) ?_ _
    refine NoPanic.normal ?_
    obtain ⟨X, hX⟩ : ∃ X, X = w5.setRow (V.heap.size) #[.slice z.ac z.ctx.length z.cc, .slice z.aK z.K.length z.cK, .slice z.ad z.dead.length z.cd] := ⟨_, rfl⟩
    rw [← hX] at hHeld ⊢
    have hqX : RMAt X (V.heap.size) z := by rw [hX]; exact setRow_heap _ _ _ _ _ _ hq0
    have hzX : RMIn X z := by
     rw [hX]
     exact RMIn.not3 (R := V.heap.size) (hz5) ⟨_, _, _, _, _, _, _, _, _, _, _, hq0⟩ (fun k9 hk9 => heap_setRow_other _ _ _ _ (fun e9 => hk9 e9.symm))
    generalize hqn : V.heap.size = q at *
    clear hX hq0 hqn
    obtain ⟨d0, d1, d2⟩ := hqX.cells
    have xA : RMAt X w.heap.size y := (hHeld.block _ (by omega)).trans vA
    have xZ := (hHeld.block (w.heap.size + 1) hlo).trans vZ
    have HX := Lib.hid (And.intro hzX (And.intro xA (And.intro xZ (And.intro hbwV (And.intro hHeld hlo)))))
    have hx3 := xA
    have HZR := Lib.hid hzr
    clear hzX xZ vA vI vd vZ vR vC0 vC1 vC2 hqX xA hlo hbwV hHeld hb5 hz5 hzr
    unfold RMAt at hx3
    go_upto_region 8 with (refine wpList_store_row rfl 31 _ _ rfl w.heap.size #[.slice z.ac z.ctx.length z.cc, .slice z.aK z.K.length z.cK, .slice z.ad z.dead.length z.cd] rfl rfl 31 _ hx3 (by kernel_rfl) rfl (by kernel_rfl) ?_)
    have HF : Hid (RMAt (X.setRow w.heap.size #[.slice z.ac z.ctx.length z.cc, .slice z.aK z.K.length z.cK, .slice z.ad z.dead.length z.cd]) w.heap.size z ∧ RMIn (X.setRow w.heap.size #[.slice z.ac z.ctx.length z.cc, .slice z.aK z.K.length z.cK, .slice z.ad z.dead.length z.cd]) z ∧ (X.setRow w.heap.size #[.slice z.ac z.ctx.length z.cc, .slice z.aK z.K.length z.cK, .slice z.ad z.dead.length z.cd]).heap[w.heap.size + 1]? = some (.cells #[.slice none 0 0, .slice none 0 0, .slice none 0 0] 31 (0, 0)) ∧ Below w.heap.size w (X.setRow w.heap.size #[.slice z.ac z.ctx.length z.cc, .slice z.aK z.K.length z.cK, .slice z.ad z.dead.length z.cd])) := by
     obtain ⟨hzX, xA, xZ, hbwV, hHeld, hlo⟩ := HX.out
     exact ⟨setRow_heap _ _ _ _ _ _ hx3, RMIn.not3 (R := w.heap.size) hzX xA.sl3 (fun k9 hk9 => heap_setRow_other _ _ _ _ (fun e9 => hk9 e9.symm)), (heap_setRow_other _ _ _ _ (by omega)).trans xZ, below_setRow (hbwV.trans (hHeld.mono (by omega))) (Nat.le_refl _) _⟩
    clear hx3 d0 d1 d2 HX
    generalize X.setRow w.heap.size #[.slice z.ac z.ctx.length z.cc, .slice z.aK z.K.length z.cK, .slice z.ad z.dead.length z.cd] = wf at *
    have hS9 := HS.out
    rw [← HZR.out] at hS9
    generalize rmOk y.rm e = ok at *
    generalize rmErr y.rm e = er at *
    cases ok with
    | false =>
      simp only [Bool.false_eq_true, if_false, if_true] at hS9
      by_cases hf0 : f = 0
      ·have hfb : (f == 0) = true := beq_iff_eq.2 hf0
       rw [if_pos hf0] at hS9
       have HS9 := Lib.hid hS9
       clear hS9 hf0
       go_wp2
       go_roundw
       case rel => exact ⟨k + 1, z, n, er, rfl, rfl, by go_num, HLT.out, HF.out.1, HF.out.2.1, HS9.out, by omega, HF.out.2.2.1, HF.out.2.2.2⟩
       case measure => have := HLT.out; simp [intOf] <;> omega
      ·have hfb : (f == 0) = false := beq_eq_false_iff_ne.2 hf0
       rw [if_neg hf0] at hS9
       have HS9 := Lib.hid hS9
       clear hS9 hf0
       go_wp2
       go_roundw
       case rel => exact ⟨k + 1, z, n, f, rfl, rfl, by go_num, HLT.out, HF.out.1, HF.out.2.1, HS9.out, by omega, HF.out.2.2.1, HF.out.2.2.2⟩
       case measure => have := HLT.out; simp [intOf] <;> omega
    | true =>
      simp only [Bool.false_eq_true, if_false, if_true] at hS9
      by_cases hf0 : f = 0
      ·have hfb : (f == 0) = true := beq_iff_eq.2 hf0
       rw [if_pos hf0] at hS9
       have HS9 := Lib.hid hS9
       clear hS9 hf0
       go_wp2
       go_roundw
       case rel => exact ⟨k + 1, z, (n + 1), er, by go_num, rfl, by go_num, HLT.out, HF.out.1, HF.out.2.1, HS9.out, by omega, HF.out.2.2.1, HF.out.2.2.2⟩
       case measure => have := HLT.out; simp [intOf] <;> omega
      ·have hfb : (f == 0) = false := beq_eq_false_iff_ne.2 hf0
       rw [if_neg hf0] at hS9
       have HS9 := Lib.hid hS9
       clear hS9 hf0
       go_wp2
       go_roundw
       case rel => exact ⟨k + 1, z, (n + 1), f, by go_num, rfl, by go_num, HLT.out, HF.out.1, HF.out.2.1, HS9.out, by omega, HF.out.2.2.1, HF.out.2.2.2⟩
       case measure => have := HLT.out; simp [intOf] <;> omega
  ·obtain rfl : k = ls.length := by omega
   have hYe : (evsOf ls).foldl mgStep (y0.rm, 0, 0) = (y.rm, n, f) := by
        have h9 := HY.out
        rwa [List.take_of_length_le (by rw [evsOf_length]; exact Nat.le_refl _)] at h9
   have HE := Lib.hid hYe
   have HB := Lib.hid (And.intro hbw (And.intro hIn hAt))
   clear hYe hbw hIn hAt
   go_wp2_with (refine wpList_store_row rfl 31 _ _ rfl (w.heap.size + 1) #[.slice y.ac y.ctx.length y.cc, .slice y.aK y.K.length y.cK, .slice y.ad y.dead.length y.cd] rfl rfl 31 _ hZr (by kernel_rfl) rfl (by kernel_rfl) ?_)
   refine ret_cell_tmp2 4 5 6 31 31 (w.heap.size + 1) #[.slice y.ac y.ctx.length y.cc, .slice y.aK y.K.length y.cK, .slice y.ad y.dead.length y.cd] _ _ _ rfl rfl rfl rfl (setRow_heap _ _ _ _ _ _ hZr) Tryz.underlying31 rfl (by kernel_rfl) rfl ?_
   obtain ⟨hbw, hIn, hAt⟩ := HB.out
   have hbS := below_setRow hbw (Nat.le_succ _) #[.slice y.ac y.ctx.length y.cc, .slice y.aK y.K.length y.cK, .slice y.ad y.dead.length y.cd]
   exact ⟨y, n, f, rfl, RMIn.not3 (R := w.heap.size + 1) hIn ⟨_, _, _, _, _, _, _, _, _, _, _, hZr⟩ (fun k9 hk9 => heap_setRow_other _ _ _ _ (fun e9 => hk9 e9.symm)), HE.out, hbS⟩
end Go.Proofs.YtpbobhfnglikmaaGreat
