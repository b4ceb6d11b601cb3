/- An event, read: event.Get. Conditions: at most 2^30 bytes. -/
import Derived.Test.YtohcmljigcdmbaaGreatRead
import Derived.Deep.RegionLaw
set_option linter.unusedSimpArgs false
set_option linter.unusedVariables false
set_option linter.unnecessarySimpa false
set_option maxHeartbeats 16000000
set_option maxRecDepth 100000
namespace Go.Proofs.YtohcmljigcdmbaaGreat
open Go.RowKit
theorem evGet_r (R : Nat) (r : Rd) (w : World) (hl : r.b.length ≤ 1073741824) (h : RdAt w R r) :
 Calls Tryz.prog 137 #[.pointer (some ⟨R, 0, none⟩)] w fun x w' => ∃ a cap, x = .returned (evVal (rEv r).2 a cap) ∧ DotsIn w' a (rEv r).2.over ∧ RdAt w' R (rEv r).1 ∧ Fr (isR R) w w' ∧ (∀ A off, a = some ⟨A, off, none⟩ → w.heap.size ≤ A) := by
 obtain ⟨ra, d, h1⟩ : ∃ a d, rDot r = (a, d) := ⟨_, _, rfl⟩
 obtain ⟨rb, s, h2⟩ : ∃ b s, rStamp ra = (b, s) := ⟨_, _, rfl⟩
 obtain ⟨rf, fl, h3⟩ : ∃ f fl, rFlags rb = (f, fl) := ⟨_, _, rfl⟩
 obtain ⟨rn, k, h4⟩ : ∃ n k, rNum 64 rf = (n, k) := ⟨_, _, rfl⟩
 obtain ⟨ro, l, h5⟩ : ∃ o l, rDots k rn = (o, l) := ⟨_, _, rfl⟩
 have HV := Lib.hid (evGo_eq r h1 h2 h3 h4 h5)
 have f1 := rDot_fit r
 have f2 := rStamp_fit ra
 have f3 := rFlags_fit rb
 have f4 := rNum_fit 64 rf
 have hfive := rFlags_five rb
 rw [h1] at f1
 rw [h2] at f2
 rw [h3] at f3 hfive
 rw [h4] at f4
 simp only at f1 f2 f3 f4 hfive
 have c1 : ∀ W, RdAt W R r → Calls Tryz.prog 164 #[.pointer (some ⟨R, 0, none⟩)] W (RetRd R ra (dotValR d) W) := fun W hW => by have := dotGet_r R r W hl hW; rw [h1] at this; exact this
 have c2 : ∀ W, RdAt W R ra → Calls Tryz.prog 131 #[.pointer (some ⟨R, 0, none⟩)] W (RetRd R rb (stampVal s) W) := fun W hW => by have := clockGet_r R ra W (by omega) hW; rw [h2] at this; exact this
 have c3 : ∀ W, RdAt W R rb → Calls Tryz.prog 167 #[.pointer (some ⟨R, 0, none⟩), .int .i64 5] W (RetFl R rf fl W) := fun W hW => by have := Flags_r R rb W (by omega) hW; rw [h3] at this; exact this
 have c4 : ∀ W, RdAt W R rf → Calls Tryz.prog 130 #[.pointer (some ⟨R, 0, none⟩), .int .u64 64] W (RetRd R rn (.int .u64 k) W) := fun W hW => by have := Num_r R rf 64 W (by omega) (by omega) hW; rw [h4] at this; exact this
 have C1 := Lib.hid c1
 have C2 := Lib.hid c2
 have C3 := Lib.hid c3
 have C4 := Lib.hid c4
 have H5 := Lib.hid h5
 have HFI := Lib.hid hfive
 have HEr := Lib.hid (fun (W : World) (r : Rd) (h : RdAt W R r) => Err_r R r W h)
 have hRl := h.lt
 clear c1 c2 c3 c4 h1 h2 h3 h4 h5 hfive
 go_enter Tryz.func137, Tryz.ntmps137
 go_upto_region 2 with (first
  | (refine Great.wpList_buildTo rfl 34 _ rfl _ rfl #[.int .i64 0, .int .i64 0, .int .i64 0, .int .i64 0, .int .i64 0, .int .i64 0, .int .i64 2, .string ⟨#[]⟩, .string ⟨#[]⟩, .string ⟨#[]⟩, .string ⟨#[]⟩, .bool false, .bool false, .bool false, .bool false, .int .i64 0, .int .i64 0, .int .i64 0, .slice none 0 0] (by kernel_rfl) ?_)
  | (refine wpList_store_newAt 34 _ _ _ #[.int .i64 0, .int .i64 0, .int .i64 0, .int .i64 0, .int .i64 0, .int .i64 0, .int .i64 2, .string ⟨#[]⟩, .string ⟨#[]⟩, .string ⟨#[]⟩, .string ⟨#[]⟩, .bool false, .bool false, .bool false, .bool false, .int .i64 0, .int .i64 0, .int .i64 0, .slice none 0 0] (w.heap.size + 1) (by simp) rfl rfl (by kernel_rfl) rfl (by kernel_rfl) ?_))
 refine wp_name (fun W hW => ?_)
 have hF : Fr (isR R) w W := by rw [hW.out]; exact ((Fr.refl _ _).alloc _).alloc _
 have hR : RdAt W R r := by rw [hW.out]; exact h.below (((Below.refl _ _).alloc (Nat.le_refl _) _).alloc (by simp) _)
 have hZ : EvBlk W w.heap.size ev0 none 0 := by rw [hW.out]; unfold EvBlk; rw [Below.heap_alloc _ _ _ (by simp)]; exact heap_alloc_last w _
 have hE : EvBlk W (w.heap.size + 1) evInit none 0 := by
  have := heap_alloc_last (w.alloc (Obj.cells (evCells ev0 none 0).toArray 34)) (Obj.cells (evCells evInit none 0).toArray 34)
  have hsz : (w.alloc (Obj.cells (evCells ev0 none 0).toArray 34)).heap.size = w.heap.size + 1 := by simp
  rw [hsz] at this
  rw [hW.out]; exact this
 have hz : w.heap.size + 2 ≤ W.heap.size := by rw [hW.out]; simp
 clear hW h
 go_upto_region 3 with (first
  | (go_at_call 164; (with_reducible refine (C1.out _ hR).mono ?_); rintro x w1 ⟨rfl, hR, hF1⟩; replace hE := hE.fr hF1 (by omega); replace hZ := hZ.fr hF1 (by omega); replace hz := Nat.le_trans hz hF1.size; replace hF := hF.again hF1; clear hF1)
  | (refine wpList_store_mid rfl 25 _ _ rfl (w.heap.size + 1) 0 #[.int .i64 d.a.dev, .int .i64 d.a.inc, .int .i64 d.seq] rfl rfl (hE.there 0 3 (by omega)) (by kernel_rfl) (by kernel_rfl) ?_))
 refine wp_name (fun W2 hW2 => ?_)
 replace hF : Fr (isR R) w W2 := by rw [hW2.out]; exact hF.setCells (Or.inl (by omega)) _ _
 replace hR := hR.setCells (g := w.heap.size + 1) 0 [.int .i64 d.a.dev, .int .i64 d.a.inc, .int .i64 d.seq] (by omega)
 replace hZ : EvBlk W2 w.heap.size ev0 none 0 := by rw [hW2.out]; exact (heap_setCells_other _ _ _ _ _ (by omega)).trans hZ
 replace hE := hE.setDot d
 have hz2 : w.heap.size + 2 ≤ W2.heap.size := by have := hE.lt; rw [← hW2.out] at this; omega
 rw [← hW2.out] at hR hE
 clear hW2 hz
 have hz := hz2
 clear hz2
 go_upto_region 4 with (first
  | (go_at_call 131; (with_reducible refine (C2.out _ hR).mono ?_); rintro x w1 ⟨rfl, hR, hF1⟩; replace hE := hE.fr hF1 (by omega); replace hZ := hZ.fr hF1 (by omega); replace hz := Nat.le_trans hz hF1.size; replace hF := hF.again hF1; clear hF1)
  | (refine wpList_store_mid rfl 27 _ _ rfl (w.heap.size + 1) 3 #[.int .i64 s.wall, .int .i64 s.count, .int .i64 s.dev] rfl rfl (hE.there 3 3 (by omega)) (by kernel_rfl) (by kernel_rfl) ?_))
 refine wp_name (fun W3 hW3 => ?_)
 replace hF : Fr (isR R) w W3 := by rw [hW3.out]; exact hF.setCells (Or.inl (by omega)) _ _
 replace hR := hR.setCells (g := w.heap.size + 1) 3 [.int .i64 s.wall, .int .i64 s.count, .int .i64 s.dev] (by omega)
 replace hZ : EvBlk W3 w.heap.size ev0 none 0 := by rw [hW3.out]; exact (heap_setCells_other _ _ _ _ _ (by omega)).trans hZ
 replace hE := hE.setStamp s
 have hz2 : w.heap.size + 2 ≤ W3.heap.size := by have := hE.lt; rw [← hW3.out] at this; omega
 rw [← hW3.out] at hR hE
 clear hW3 hz
 have hz := hz2
 clear hz2
 have hz3 := hz
 go_upto_block 0 with (first
  | (go_at_call 167; (with_reducible refine (C3.out _ hR).mono ?_); rintro x w1 ⟨fv, rfl, hfl, hR, hF1⟩; replace hE := hE.fr hF1 (by omega); replace hZ := hZ.fr hF1 (by omega); replace hz := Nat.le_trans hz hF1.size; replace hF := hF.again hF1; clear hF1)
  | (go_at_call 130; (with_reducible refine (C4.out _ hR).mono ?_); rintro x w1 ⟨rfl, hR, hF1⟩; replace hE := hE.fr hF1 (by omega); replace hZ := hZ.fr hF1 (by omega); replace hz := Nat.le_trans hz hF1.size; replace hF := hF.again hF1; have hF5 := hF1; clear hF1))
 refine wp_name (fun W5 hW5 => ?_)
 rw [← hW5.out] at hR hE hZ hF hz
 have hfl5 : FlagsIn W3 W5 fv fl := by
  rw [hW5.out]
  rcases hfl with h | ⟨B, h1, h2, h3, h4⟩
  ·exact Or.inl h
  ·exact Or.inr ⟨B, h1, fun j hj => hF5.kept (h2 j hj) (by simp only [isR]; omega), h3, Nat.lt_of_lt_of_le h4 hF5.size⟩
 clear hW5 hfl hF5 C1 C2 C3 C4
 have HI0 : EvInv W5 W5 R (w.heap.size + 1) { { evInit with dot := d } with stamp := s } rn [] := ⟨none, 0, hE, World.ownsRow_nil _ _ _ _, hR, Fr.refl _ _⟩
 obtain ⟨i0, hi, hz0, hz1, hz2⟩ := info_parts Tryz.infoDot
 go_wp2
 go_loopw [5] (fun i wr => ∃ (m : Nat) (lr : List Dot) (rr : Rd), i = .int .u64 m ∧ m + lr.length ≤ 64 ∧ rr.b.length ≤ 1073741824 ∧ EvInv W5 wr R (w.heap.size + 1) { { evInit with dot := d } with stamp := s } rr lr ∧ (ro, l) = ((rDots m rr).1, lr ++ (rDots m rr).2)) (fun i _ => (intOf i).toNat)
 case atStart => exact ⟨k, [], rn, rfl, by simp; omega, by omega, HI0, by rw [H5.out]; rfl⟩
 case round =>
  obtain ⟨m, lr, rr, rfl, hm, hrl, HI, hpre⟩ := hrel
  have HP := Lib.hid hpre
  clear hpre
  by_cases hm0 : 0 < m
  ·by_cases hre : rr.e = 0
   ·have hq : (rr.e == 0) = true := beq_iff_eq.2 hre
    obtain ⟨rd, dd, hdd⟩ : ∃ x y, rDot rr = (x, y) := ⟨(rDot rr).1, (rDot rr).2, rfl⟩
    have hdf := rDot_fit rr
    have cD : ∀ W, RdAt W R rr → Calls Tryz.prog 164 #[.pointer (some ⟨R, 0, none⟩)] W (RetRd R rd (dotValR dd) W) := fun W hW => by have := dotGet_r R rr W hrl hW; rw [hdd] at this; exact this
    rw [hdd] at hdf
    simp only at hdf
    have CD := Lib.hid cD
    have HS : Hid ((ro, l) = ((rDots (m - 1) rd).1, (lr ++ [dd]) ++ (rDots (m - 1) rd).2)) := by
     obtain ⟨m', rfl⟩ : ∃ m', m = m' + 1 := ⟨m - 1, by omega⟩
     rw [Hid, HP.out]
     simp only [rDots, if_pos hre, hdd, Nat.add_sub_cancel]
     simp
    obtain ⟨ad, cap, hE, hown, hR, hF5⟩ := HI
    clear cD hdd HP hre
    have q18 := hE.cell 18 _ rfl
    rw [Nat.zero_add] at q18
    have z18 := hE.free 18
    go_upto_region 8 with (go_at_call 162; (with_reducible refine (HEr.out _ _ hR).mono ?_); rintro x w3 ⟨rfl, rfl⟩)
    have hRd : RdAt wr.drew R rr := hR.below (Below.refl _ _).drew
    have hEd : EvBlk wr.drew (w.heap.size + 1) { { { evInit with dot := d } with stamp := s } with over := lr } ad cap := hE
    have hownd : wr.drew.ownsRow W5.heap.size 25 3 (.slice ad lr.length cap) lr.length (dotVals lr) := hown
    have hFd : Fr (isRE R (w.heap.size + 1)) W5 wr.drew := hF5.again (Fr.of_below (Below.refl _ _).drew)
    have hdv := dotVals_length lr
    clear hR hE hown hF5
    go_region_law
     (first
      | (go_simp; go_at_call 164; (with_reducible refine (CD.out _ hRd).mono ?_); rintro x wd ⟨rfl, hR2, hF2⟩; have hE2 := hEd.fr hF2 (by omega); have k18 := hE2.cell 18 _ rfl; rw [Nat.zero_add] at k18; have y18 := hE2.free 18; have hown2 := own_fr hownd hF2 (by omega); have hsz := hF2.size; have hsz2 := hFd.size; have k18a := fun o => kept ((Below.refl wd.heap.size wd).alloc (Nat.le_refl _) o) k18; have y18a := fun o => (hE2.below ((Below.refl wd.heap.size wd).alloc (Nat.le_refl _) o)).free 18)
      | (refine step_append_own rfl _ _ 32 rfl W5.heap.size 25 i0 (.agg #[.int .i64 0, .int .i64 0, .int .i64 0]) 3 24 Tryz.underlying32 hi hz0 hz1 hz2 rfl (by decide) _ _ _ rfl (hown2.alloc _) ⟨wd.heap.size, 0, none⟩ 1 1 [.int .i64 dd.a.dev, .int .i64 dd.a.inc, .int .i64 dd.seq] rfl rfl (new3 wd dd _) (by simp [Value.oneCell']) (by unfold maxLen; omega) (by omega) (by simp; omega) ?_; intro v' wf hownf0 hgrow; have hownf : wf.ownsRow W5.heap.size 25 3 v' (lr ++ [dd]).length (dotVals (lr ++ [dd])) := (by rw [← dotVals_snocR, List.length_append]; exact hownf0); obtain ⟨ad', cap', rfl, _⟩ := own_dots hownf; have hEa := hE2.below ((Below.refl wd.heap.size wd).alloc (Nat.le_refl _) (Obj.cells #[.int .i64 dd.a.dev, .int .i64 dd.a.inc, .int .i64 dd.seq] 25)); have hEf := hEa.grown hgrow (fun h => by have := (hown2.lt _ h.symm).1; omega); have p18 := hEf.cell 18 _ rfl; rw [Nat.zero_add] at p18; have x18 := hEf.free 18))
    all_goals
     have hEs := hEf.setOver (a' := ad') (cap' := cap') (lr ++ [dd])
     have hRs : RdAt (wf.setCell ⟨w.heap.size + 1, 18, none⟩ (.slice ad' (lr ++ [dd]).length cap')) R rd := ((hR2.below ((Below.refl _ _).alloc (Nat.le_refl _) (Obj.cells #[.int .i64 dd.a.dev, .int .i64 dd.a.inc, .int .i64 dd.seq] 25))).grown hgrow (fun g hg => by have := (hown2.lt g hg).1; omega)).setCell _ (by omega)
     have hos := ownsRow_setCell_other (a := ⟨w.heap.size + 1, 18, none⟩) hownf (fun e => by have := (hownf.lt _ e).1; simp only at this; omega) (.slice ad' (lr ++ [dd]).length cap')
     have hFs : Fr (isRE R (w.heap.size + 1)) W5 (wf.setCell ⟨w.heap.size + 1, 18, none⟩ (.slice ad' (lr ++ [dd]).length cap')) := by
      have hg1 : Fr (isRE R (w.heap.size + 1)) W5 wf := by
       have h1 := (hFd.again (isR_RE hF2)).alloc (Obj.cells #[.int .i64 dd.a.dev, .int .i64 dd.a.inc, .int .i64 dd.seq] 25)
       refine ⟨hgrow.os.trans h1.os, hgrow.tape.trans h1.tape, hgrow.output.trans h1.output, Nat.le_trans h1.size hgrow.size, fun k hk hs => ?_⟩
       exact (hgrow.block k (Nat.lt_of_lt_of_le hk h1.size) (fun e => by have := (hown2.lt k e.symm).1; omega)).trans (h1.block k hk hs)
      exact hg1.setCell (Or.inr (Or.inr rfl)) _
     simp only [List.length_append, List.length_singleton] at hEs hRs hFs hos
     have HI2 : EvInv W5 (wf.setCell ⟨w.heap.size + 1, 18, none⟩ (.slice ad' (lr.length + 1) cap')) R (w.heap.size + 1) { { evInit with dot := d } with stamp := s } rd (lr ++ [dd]) := ⟨ad', cap', by simp only [EvBlk, evCells, List.length_append, List.length_singleton] at hEs ⊢; exact hEs, by simp only [List.length_append, List.length_singleton]; exact hos, hRs, hFs⟩
     clear hEs hRs hos hFs hEf hEa hownf hownf0 hgrow hE2 hown2 hR2 hF2 hFd hEd hownd hRd
     go_wp2
     go_roundw
     case rel => exact ⟨m - 1, lr ++ [dd], rd, by go_num, by simp; omega, by omega, HI2, HS.out⟩
     case measure => simp [intOf] <;> omega
   ·have hq : (rr.e == 0) = false := beq_eq_false_iff_ne.2 hre
    have hrl2 : ro = rr ∧ l = lr := by
     obtain ⟨m', rfl⟩ : ∃ m', m = m' + 1 := ⟨m - 1, by omega⟩
     have h := HP.out
     simp only [rDots, if_neg hre] at h
     simp only [Prod.mk.injEq, List.append_nil] at h
     exact h
    obtain ⟨rfl, rfl⟩ := hrl2
    clear HP hre
    have hF0 := hF
    have HI' := HI
    obtain ⟨_, _, _, _, hR, _⟩ := HI'
    go_upto_region 9 with (go_at_call 162; (with_reducible refine (HEr.out _ _ hR).mono ?_); rintro x w3 ⟨rfl, rfl⟩)
    clear hR hq
    obtain ⟨ad, cap, hE, hown, hR, hF5⟩ := HI
    have hd : DotsIn wr ad l := by obtain ⟨_, _, h, hd⟩ := own_dots hown; cases h; exact hd
    have hdz : ∀ A off, ad = some ⟨A, off, none⟩ → W5.heap.size ≤ A := own_at hown
    have hZr : EvBlk wr w.heap.size ev0 none 0 := (hF5.block _ (by omega) (by rintro (h | h) <;> omega)).trans hZ
    have hfl6 : FlagsIn W3 wr fv fl := by
     rcases hfl5 with h | ⟨B, h1, h2, h3, h4⟩
     ·exact Or.inl h
     ·exact Or.inr ⟨B, h1, fun j hj => hF5.kept (h2 j hj) (by rintro (h | h) <;> simp only at h <;> omega), h3, Nat.lt_of_lt_of_le h4 hF5.size⟩
    have hll : l.length ≤ 64 := by omega
    clear hown hZ hfl5
    have hZ := hZr
    clear hZr
    rcases HFI.out with hf0 | ⟨b0, b1, b2, b3, b4, hf5⟩
    ·have HX := Lib.hid (HV.out.trans (if_pos hf0))
     have hlen : ∃ fa : Option Addr, fv = .slice fa 0 0 := by
      rcases hfl6 with h | ⟨B, h1, _⟩
      ·exact ⟨_, h.2⟩
      ·rw [hf0] at h1; exact ⟨_, h1⟩
     obtain ⟨fa, rfl⟩ := hlen
     clear hf0 hfl6
     have hF : Fr (isR R) w wr := fr_new hF0 hF5 (by omega)
     have hs := (⟨Nat.zero_le _, Nat.zero_le _, Nat.zero_le _, Nat.zero_le _, by simp only; omega⟩ : EvSmall ⟨d, s, 2, key0, ck0, l⟩)
     have hRt0 := fun (W : World) (h : DotsIn W ad (⟨d, s, 2, key0, ck0, l⟩ : Ev).over) => eventRight_any (⟨d, s, 2, key0, ck0, l⟩ : Ev) ad cap W hs h
     by_cases hxe : ro.e = 0
     ·have hq1 : (ro.e == 0) = true := beq_iff_eq.2 hxe
      have hq2 : (ro.e != 0) = false := by rw [bne_eq_false_iff_eq]; exact hxe
      cases hok : evOk (⟨d, s, 2, key0, ck0, l⟩ : Ev) with
      | true =>
        have HE := Lib.hid (rEv_ok HX.out hxe hok)
        rw [hok] at hRt0
        have HRt := Lib.hid hRt0
        clear hRt0 hok hxe
        go_wp2_with (first
            | (go_at_call 162; (with_reducible refine (HEr.out _ _ hR).mono ?_); rintro x w3 ⟨rfl, rfl⟩)
            | ((with_reducible refine wpList_load_ev _ (w.heap.size + 1) (⟨d, s, 2, key0, ck0, l⟩ : Ev) ad cap hE.cell ?_ rfl ?_); exact rfl)
            | (go_at_call 32; (with_reducible refine (HRt.out _ hd).mono ?_); rintro x w4 ⟨rfl, hb⟩; replace hZ := hZ.below hb; replace hE := hE.below hb; replace hR := hR.below hb; replace hd := hd.kept hb; replace hF := hF.again (Fr.of_below hb))
            | (refine wpList_store_row rfl 34 _ _ rfl w.heap.size (evCells (⟨d, s, 2, key0, ck0, l⟩ : Ev) ad cap).toArray rfl rfl 34 (evCells ev0 none 0).toArray hZ (by kernel_rfl) rfl (by kernel_rfl) ?_))
        refine ret_cell 2 34 34 w.heap.size (evCells (⟨d, s, 2, key0, ck0, l⟩ : Ev) ad cap).toArray _ rfl rfl (setRow_heap _ _ _ _ _ _ hZ) Tryz.underlying34 rfl (by kernel_rfl) rfl ?_
        rw [HE.out]
        exact ⟨ad, cap, rfl, hd.setRow _ (fun A off h => by have := hdz A off h; omega), hR.setRow (by omega), hF.setRow (Or.inl (Nat.le_refl _)) _, fun A off h => by have := hdz A off h; omega⟩
      | false =>
        have HE := Lib.hid (rEv_bad HX.out hxe hok)
        have HFF : Hid (rFail ro 1 = ⟨ro.b, 1⟩) := by unfold Hid rFail; rw [if_pos hxe]
        have HFl := Lib.hid (fun (W : World) (h : RdAt W R ro) => Fail_r R ro 1 W h)
        rw [hok] at hRt0
        have HRt := Lib.hid hRt0
        clear hRt0 hok hxe
        go_wp2_with (first
            | (go_at_call 162; (with_reducible refine (HEr.out _ _ hR).mono ?_); rintro x w3 ⟨rfl, rfl⟩)
            | ((with_reducible refine wpList_load_ev _ (w.heap.size + 1) (⟨d, s, 2, key0, ck0, l⟩ : Ev) ad cap hE.cell ?_ rfl ?_); exact rfl)
            | (go_at_call 32; (with_reducible refine (HRt.out _ hd).mono ?_); rintro x w4 ⟨rfl, hb⟩; replace hZ := hZ.below hb; replace hE := hE.below hb; replace hR := hR.below hb; replace hd := hd.kept hb; replace hF := hF.again (Fr.of_below hb))
            | (go_at_call 136; (with_reducible refine (HFl.out _ hR).mono ?_); rintro x w5 ⟨rfl, hR, hF1⟩; rw [HFF.out] at hR; replace hZ := hZ.fr hF1 (by omega); replace hF := hF.again hF1)
            | (refine Great.wpList_buildTo rfl 34 _ rfl _ rfl #[.int .i64 0, .int .i64 0, .int .i64 0, .int .i64 0, .int .i64 0, .int .i64 0, .int .i64 0, .string ⟨#[]⟩, .string ⟨#[]⟩, .string ⟨#[]⟩, .string ⟨#[]⟩, .bool false, .bool false, .bool false, .bool false, .int .i64 0, .int .i64 0, .int .i64 0, .slice none 0 0] (by kernel_rfl) ?_)
            | (refine wpList_store_row rfl 34 _ _ rfl w.heap.size #[.int .i64 0, .int .i64 0, .int .i64 0, .int .i64 0, .int .i64 0, .int .i64 0, .int .i64 0, .string ⟨#[]⟩, .string ⟨#[]⟩, .string ⟨#[]⟩, .string ⟨#[]⟩, .bool false, .bool false, .bool false, .bool false, .int .i64 0, .int .i64 0, .int .i64 0, .slice none 0 0] rfl rfl 34 (evCells ev0 none 0).toArray hZ (by kernel_rfl) rfl (by kernel_rfl) ?_))
        refine ret_cell 2 34 34 w.heap.size #[.int .i64 0, .int .i64 0, .int .i64 0, .int .i64 0, .int .i64 0, .int .i64 0, .int .i64 0, .string ⟨#[]⟩, .string ⟨#[]⟩, .string ⟨#[]⟩, .string ⟨#[]⟩, .bool false, .bool false, .bool false, .bool false, .int .i64 0, .int .i64 0, .int .i64 0, .slice none 0 0] _ rfl rfl (setRow_heap _ _ _ _ _ _ hZ) Tryz.underlying34 rfl (by kernel_rfl) rfl ?_
        rw [HE.out]
        exact ⟨none, 0, rfl, Or.inl rfl, hR.setRow (by omega), hF.setRow (Or.inl (Nat.le_refl _)) _, fun A off h => by cases h⟩
     ·have hq1 : (ro.e == 0) = false := beq_eq_false_iff_ne.2 hxe
      have hq2 : (ro.e != 0) = true := by rw [bne_iff_ne]; exact hxe
      have HE := Lib.hid (rEv_err HX.out hxe)
      clear hRt0 hxe
      go_wp2_with (first
       | (go_at_call 162; (with_reducible refine (HEr.out _ _ hR).mono ?_); rintro x w3 ⟨rfl, rfl⟩)
       | (refine Great.wpList_buildTo rfl 34 _ rfl _ rfl #[.int .i64 0, .int .i64 0, .int .i64 0, .int .i64 0, .int .i64 0, .int .i64 0, .int .i64 0, .string ⟨#[]⟩, .string ⟨#[]⟩, .string ⟨#[]⟩, .string ⟨#[]⟩, .bool false, .bool false, .bool false, .bool false, .int .i64 0, .int .i64 0, .int .i64 0, .slice none 0 0] (by kernel_rfl) ?_)
       | (refine wpList_store_row rfl 34 _ _ rfl w.heap.size #[.int .i64 0, .int .i64 0, .int .i64 0, .int .i64 0, .int .i64 0, .int .i64 0, .int .i64 0, .string ⟨#[]⟩, .string ⟨#[]⟩, .string ⟨#[]⟩, .string ⟨#[]⟩, .bool false, .bool false, .bool false, .bool false, .int .i64 0, .int .i64 0, .int .i64 0, .slice none 0 0] rfl rfl 34 (evCells ev0 none 0).toArray hZ (by kernel_rfl) rfl (by kernel_rfl) ?_))
      refine ret_cell 2 34 34 w.heap.size #[.int .i64 0, .int .i64 0, .int .i64 0, .int .i64 0, .int .i64 0, .int .i64 0, .int .i64 0, .string ⟨#[]⟩, .string ⟨#[]⟩, .string ⟨#[]⟩, .string ⟨#[]⟩, .bool false, .bool false, .bool false, .bool false, .int .i64 0, .int .i64 0, .int .i64 0, .slice none 0 0] _ rfl rfl (setRow_heap _ _ _ _ _ _ hZ) Tryz.underlying34 rfl (by kernel_rfl) rfl ?_
      rw [HE.out]
      exact ⟨none, 0, rfl, Or.inl rfl, hR.setRow (by omega), hF.setRow (Or.inl (Nat.le_refl _)) _, fun A off h => by cases h⟩
    ·have hne : fl ≠ [] := by rw [hf5]; simp
     have h5 : ∃ B, fv = .slice (some ⟨B, 0, none⟩) 5 5 ∧ BoolsAt wr B [b0, b1, b2, b3, b4] ∧ W3.heap.size ≤ B := by
      rcases hfl6 with h | ⟨B, h1, h2, h3, _⟩
      ·exact absurd h.1 hne
      ·rw [hf5] at h1 h2; exact ⟨B, h1, h2, h3⟩
     obtain ⟨B, rfl, hbo, hB3⟩ := h5
     have p0 := hbo 0 (by simp)
     have p1 := hbo 1 (by simp)
     have p2 := hbo 2 (by simp)
     have p3 := hbo 3 (by simp)
     have p4 := hbo 4 (by simp)
     simp only [List.getElem_cons_zero, List.getElem_cons_succ] at p0 p1 p2 p3 p4
     have HV2 := Lib.hid (HV.out.trans (if_neg hne))
     rw [hf5] at HV2
     simp only [flagOf, List.getD_cons_zero, List.getD_cons_succ] at HV2
     clear hfl6 hbo hne hf5
     have e11 := hE.cell 11 _ rfl
     have e12 := hE.cell 12 _ rfl
     have e13 := hE.cell 13 _ rfl
     have e14 := hE.cell 14 _ rfl
     rw [Nat.zero_add] at e11 e12 e13 e14
     have z11 := hE.free 11
     have z12 := hE.free 12
     have z13 := hE.free 13
     have z14 := hE.free 14
     go_upto_region 10 with fail
     have hset : ∀ (W : World) (o j : Nat) (v : Value), (W.setCell ⟨w.heap.size + 1, o, none⟩ v).cell? ⟨B, j, none⟩ = W.cell? ⟨B, j, none⟩ := fun W o j v => World.cell?_setCell_other _ _ _ _ (fun e => by simp only [Addr.mk.injEq] at e; omega)
     go_region_held3 (fun w' => w'.cell? ⟨B, 1, none⟩ = some (.bool b1) ∧ w'.cell? ⟨B, 2, none⟩ = some (.bool b2) ∧ w'.cell? ⟨B, 3, none⟩ = some (.bool b3) ∧ w'.cell? ⟨B, 4, none⟩ = some (.bool b4)) (first | exact ⟨p1, p2, p3, p4⟩ | (refine ⟨?_, ?_, ?_, ?_⟩ <;> simp [hset, p1, p2, p3, p4])) (fail)
     have hE4 : EvBlk ((((wr.setCell ⟨w.heap.size + 1, 11, none⟩ (.bool b1)).setCell ⟨w.heap.size + 1, 12, none⟩ (.bool b2)).setCell ⟨w.heap.size + 1, 13, none⟩ (.bool b3)).setCell ⟨w.heap.size + 1, 14, none⟩ (.bool b4)).drew (w.heap.size + 1) (⟨d, s, 2, key0, ⟨ByteArray.empty, b1, b2, b3, b4, 0, 0, 0⟩, l⟩ : Ev) ad cap := (((hE.set11 b1).set12 b2).set13 b3).set14 b4
     have hR4 : RdAt ((((wr.setCell ⟨w.heap.size + 1, 11, none⟩ (.bool b1)).setCell ⟨w.heap.size + 1, 12, none⟩ (.bool b2)).setCell ⟨w.heap.size + 1, 13, none⟩ (.bool b3)).setCell ⟨w.heap.size + 1, 14, none⟩ (.bool b4)).drew R ro := ((((hR.setCell _ (by omega)).setCell _ (by omega)).setCell _ (by omega)).setCell _ (by omega)).below (Below.refl _ _).drew
     have hF4 : Fr (isRE R (w.heap.size + 1)) W5 ((((wr.setCell ⟨w.heap.size + 1, 11, none⟩ (.bool b1)).setCell ⟨w.heap.size + 1, 12, none⟩ (.bool b2)).setCell ⟨w.heap.size + 1, 13, none⟩ (.bool b3)).setCell ⟨w.heap.size + 1, 14, none⟩ (.bool b4)).drew := ((((hF5.setCell (Or.inr (Or.inr rfl)) _).setCell (Or.inr (Or.inr rfl)) _).setCell (Or.inr (Or.inr rfl)) _).setCell (Or.inr (Or.inr rfl)) _).again (Fr.of_below (Below.refl _ _).drew)
     have hk4 : ∀ k, k ≠ w.heap.size + 1 → (((((wr.setCell ⟨w.heap.size + 1, 11, none⟩ (.bool b1)).setCell ⟨w.heap.size + 1, 12, none⟩ (.bool b2)).setCell ⟨w.heap.size + 1, 13, none⟩ (.bool b3)).setCell ⟨w.heap.size + 1, 14, none⟩ (.bool b4)).drew).heap[k]? = wr.heap[k]? := fun k hk => (heap_setCell_other _ _ _ _ (fun e => hk e.symm)).trans ((heap_setCell_other _ _ _ _ (fun e => hk e.symm)).trans ((heap_setCell_other _ _ _ _ (fun e => hk e.symm)).trans (heap_setCell_other _ _ _ _ (fun e => hk e.symm))))
     have hZ4 : EvBlk ((((wr.setCell ⟨w.heap.size + 1, 11, none⟩ (.bool b1)).setCell ⟨w.heap.size + 1, 12, none⟩ (.bool b2)).setCell ⟨w.heap.size + 1, 13, none⟩ (.bool b3)).setCell ⟨w.heap.size + 1, 14, none⟩ (.bool b4)).drew w.heap.size ev0 none 0 := (hk4 _ (by omega)).trans hZ
     have hd4 : DotsIn ((((wr.setCell ⟨w.heap.size + 1, 11, none⟩ (.bool b1)).setCell ⟨w.heap.size + 1, 12, none⟩ (.bool b2)).setCell ⟨w.heap.size + 1, 13, none⟩ (.bool b3)).setCell ⟨w.heap.size + 1, 14, none⟩ (.bool b4)).drew ad l := hd.keep (fun A off h _ => hk4 _ (by have := hdz A off h; omega))
     have h04 : (((((wr.setCell ⟨w.heap.size + 1, 11, none⟩ (.bool b1)).setCell ⟨w.heap.size + 1, 12, none⟩ (.bool b2)).setCell ⟨w.heap.size + 1, 13, none⟩ (.bool b3)).setCell ⟨w.heap.size + 1, 14, none⟩ (.bool b4)).drew).cell? ⟨B, 0, none⟩ = some (.bool b0) := by simp [hset, p0]
     clear p0 p1 p2 p3 p4 e11 e12 e13 e14 z11 z12 z13 z14 hk4 hset hE hR hZ hd hF5
     generalize ((((wr.setCell ⟨w.heap.size + 1, 11, none⟩ (.bool b1)).setCell ⟨w.heap.size + 1, 12, none⟩ (.bool b2)).setCell ⟨w.heap.size + 1, 13, none⟩ (.bool b3)).setCell ⟨w.heap.size + 1, 14, none⟩ (.bool b4)).drew = WX at *
     have hE := hE4
     have hR := hR4
     have hZ := hZ4
     have hd := hd4
     clear hE4 hR4 hZ4 hd4
     cases b0 with
     | false =>
       have HX : Hid (evGo r = (ro, (⟨d, s, 2, key0, ⟨ByteArray.empty, b1, b2, b3, b4, 0, 0, 0⟩, l⟩ : Ev))) := HV2.out.trans (if_neg (by decide))
       have hF : Fr (isR R) w WX := fr_new hF0 hF4 (by omega)
       clear HV2
       have hs := (⟨Nat.zero_le _, Nat.zero_le _, Nat.zero_le _, Nat.zero_le _, by simp only; omega⟩ : EvSmall (⟨d, s, 2, key0, ⟨ByteArray.empty, b1, b2, b3, b4, 0, 0, 0⟩, l⟩ : Ev))
       have hRt0 := fun (W : World) (h : DotsIn W ad (⟨d, s, 2, key0, ⟨ByteArray.empty, b1, b2, b3, b4, 0, 0, 0⟩, l⟩ : Ev).over) => eventRight_any (⟨d, s, 2, key0, ⟨ByteArray.empty, b1, b2, b3, b4, 0, 0, 0⟩, l⟩ : Ev) ad cap W hs h
       by_cases hxe : ro.e = 0
       ·have hq1 : (ro.e == 0) = true := beq_iff_eq.2 hxe
        have hq2 : (ro.e != 0) = false := by rw [bne_eq_false_iff_eq]; exact hxe
        cases hok : evOk (⟨d, s, 2, key0, ⟨ByteArray.empty, b1, b2, b3, b4, 0, 0, 0⟩, l⟩ : Ev) with
        | true =>
          have HE := Lib.hid (rEv_ok HX.out hxe hok)
          rw [hok] at hRt0
          have HRt := Lib.hid hRt0
          clear hRt0 hok hxe
          go_wp2_with (first
             | (go_at_call 162; (with_reducible refine (HEr.out _ _ hR).mono ?_); rintro x w3 ⟨rfl, rfl⟩)
             | ((with_reducible refine wpList_load_ev _ (w.heap.size + 1) (⟨d, s, 2, key0, ⟨ByteArray.empty, b1, b2, b3, b4, 0, 0, 0⟩, l⟩ : Ev) ad cap hE.cell ?_ rfl ?_); exact rfl)
             | (go_at_call 32; (with_reducible refine (HRt.out _ hd).mono ?_); rintro x w4 ⟨rfl, hb⟩; replace hZ := hZ.below hb; replace hE := hE.below hb; replace hR := hR.below hb; replace hd := hd.kept hb; replace hF := hF.again (Fr.of_below hb))
             | (refine wpList_store_row rfl 34 _ _ rfl w.heap.size (evCells (⟨d, s, 2, key0, ⟨ByteArray.empty, b1, b2, b3, b4, 0, 0, 0⟩, l⟩ : Ev) ad cap).toArray rfl rfl 34 (evCells ev0 none 0).toArray hZ (by kernel_rfl) rfl (by kernel_rfl) ?_))
          refine ret_cell 2 34 34 w.heap.size (evCells (⟨d, s, 2, key0, ⟨ByteArray.empty, b1, b2, b3, b4, 0, 0, 0⟩, l⟩ : Ev) ad cap).toArray _ rfl rfl (setRow_heap _ _ _ _ _ _ hZ) Tryz.underlying34 rfl (by kernel_rfl) rfl ?_
          rw [HE.out]
          exact ⟨ad, cap, rfl, hd.setRow _ (fun A off h => by have := hdz A off h; omega), hR.setRow (by omega), hF.setRow (Or.inl (Nat.le_refl _)) _, fun A off h => by have := hdz A off h; omega⟩
        | false =>
          have HE := Lib.hid (rEv_bad HX.out hxe hok)
          have HFF : Hid (rFail ro 1 = ⟨ro.b, 1⟩) := by unfold Hid rFail; rw [if_pos hxe]
          have HFl := Lib.hid (fun (W : World) (h : RdAt W R ro) => Fail_r R ro 1 W h)
          rw [hok] at hRt0
          have HRt := Lib.hid hRt0
          clear hRt0 hok hxe
          go_wp2_with (first
             | (go_at_call 162; (with_reducible refine (HEr.out _ _ hR).mono ?_); rintro x w3 ⟨rfl, rfl⟩)
             | ((with_reducible refine wpList_load_ev _ (w.heap.size + 1) (⟨d, s, 2, key0, ⟨ByteArray.empty, b1, b2, b3, b4, 0, 0, 0⟩, l⟩ : Ev) ad cap hE.cell ?_ rfl ?_); exact rfl)
             | (go_at_call 32; (with_reducible refine (HRt.out _ hd).mono ?_); rintro x w4 ⟨rfl, hb⟩; replace hZ := hZ.below hb; replace hE := hE.below hb; replace hR := hR.below hb; replace hd := hd.kept hb; replace hF := hF.again (Fr.of_below hb))
             | (go_at_call 136; (with_reducible refine (HFl.out _ hR).mono ?_); rintro x w5 ⟨rfl, hR, hF1⟩; rw [HFF.out] at hR; replace hZ := hZ.fr hF1 (by omega); replace hF := hF.again hF1)
             | (refine Great.wpList_buildTo rfl 34 _ rfl _ rfl #[.int .i64 0, .int .i64 0, .int .i64 0, .int .i64 0, .int .i64 0, .int .i64 0, .int .i64 0, .string ⟨#[]⟩, .string ⟨#[]⟩, .string ⟨#[]⟩, .string ⟨#[]⟩, .bool false, .bool false, .bool false, .bool false, .int .i64 0, .int .i64 0, .int .i64 0, .slice none 0 0] (by kernel_rfl) ?_)
             | (refine wpList_store_row rfl 34 _ _ rfl w.heap.size #[.int .i64 0, .int .i64 0, .int .i64 0, .int .i64 0, .int .i64 0, .int .i64 0, .int .i64 0, .string ⟨#[]⟩, .string ⟨#[]⟩, .string ⟨#[]⟩, .string ⟨#[]⟩, .bool false, .bool false, .bool false, .bool false, .int .i64 0, .int .i64 0, .int .i64 0, .slice none 0 0] rfl rfl 34 (evCells ev0 none 0).toArray hZ (by kernel_rfl) rfl (by kernel_rfl) ?_))
          refine ret_cell 2 34 34 w.heap.size #[.int .i64 0, .int .i64 0, .int .i64 0, .int .i64 0, .int .i64 0, .int .i64 0, .int .i64 0, .string ⟨#[]⟩, .string ⟨#[]⟩, .string ⟨#[]⟩, .string ⟨#[]⟩, .bool false, .bool false, .bool false, .bool false, .int .i64 0, .int .i64 0, .int .i64 0, .slice none 0 0] _ rfl rfl (setRow_heap _ _ _ _ _ _ hZ) Tryz.underlying34 rfl (by kernel_rfl) rfl ?_
          rw [HE.out]
          exact ⟨none, 0, rfl, Or.inl rfl, hR.setRow (by omega), hF.setRow (Or.inl (Nat.le_refl _)) _, fun A off h => by cases h⟩
       ·have hq1 : (ro.e == 0) = false := beq_eq_false_iff_ne.2 hxe
        have hq2 : (ro.e != 0) = true := by rw [bne_iff_ne]; exact hxe
        have HE := Lib.hid (rEv_err HX.out hxe)
        clear hRt0 hxe
        go_wp2_with (first
            | (go_at_call 162; (with_reducible refine (HEr.out _ _ hR).mono ?_); rintro x w3 ⟨rfl, rfl⟩)
            | (refine Great.wpList_buildTo rfl 34 _ rfl _ rfl #[.int .i64 0, .int .i64 0, .int .i64 0, .int .i64 0, .int .i64 0, .int .i64 0, .int .i64 0, .string ⟨#[]⟩, .string ⟨#[]⟩, .string ⟨#[]⟩, .string ⟨#[]⟩, .bool false, .bool false, .bool false, .bool false, .int .i64 0, .int .i64 0, .int .i64 0, .slice none 0 0] (by kernel_rfl) ?_)
            | (refine wpList_store_row rfl 34 _ _ rfl w.heap.size #[.int .i64 0, .int .i64 0, .int .i64 0, .int .i64 0, .int .i64 0, .int .i64 0, .int .i64 0, .string ⟨#[]⟩, .string ⟨#[]⟩, .string ⟨#[]⟩, .string ⟨#[]⟩, .bool false, .bool false, .bool false, .bool false, .int .i64 0, .int .i64 0, .int .i64 0, .slice none 0 0] rfl rfl 34 (evCells ev0 none 0).toArray hZ (by kernel_rfl) rfl (by kernel_rfl) ?_))
        refine ret_cell 2 34 34 w.heap.size #[.int .i64 0, .int .i64 0, .int .i64 0, .int .i64 0, .int .i64 0, .int .i64 0, .int .i64 0, .string ⟨#[]⟩, .string ⟨#[]⟩, .string ⟨#[]⟩, .string ⟨#[]⟩, .bool false, .bool false, .bool false, .bool false, .int .i64 0, .int .i64 0, .int .i64 0, .slice none 0 0] _ rfl rfl (setRow_heap _ _ _ _ _ _ hZ) Tryz.underlying34 rfl (by kernel_rfl) rfl ?_
        rw [HE.out]
        exact ⟨none, 0, rfl, Or.inl rfl, hR.setRow (by omega), hF.setRow (Or.inl (Nat.le_refl _)) _, fun A off h => by cases h⟩
     | true =>
       have HX : Hid (evGo r = (rItem ro, (withItem (⟨d, s, 1, key0, ⟨ByteArray.empty, b1, b2, b3, b4, 0, 0, 0⟩, l⟩ : Ev) ro))) := HV2.out.trans (if_pos rfl)
       have q6 := hE.cell 6 _ rfl
       rw [Nat.zero_add] at q6
       have z6 := hE.free 6
       go_upto_region 13 with fail
       have hE6 := hE.set6 1
       have hR6 := hR.setCell (g := w.heap.size + 1) (o := 6) (.int .i64 1) (by omega)
       have hF6 := hF4.setCell (p := ⟨w.heap.size + 1, 6, none⟩) (Or.inr (Or.inr rfl)) (.int .i64 1)
       have hk6 : ∀ k, k ≠ w.heap.size + 1 → (WX.setCell ⟨w.heap.size + 1, 6, none⟩ (.int .i64 1)).heap[k]? = WX.heap[k]? := fun k hk => heap_setCell_other _ _ _ _ (fun e => hk e.symm)
       have hZ6 : EvBlk (WX.setCell ⟨w.heap.size + 1, 6, none⟩ (.int .i64 1)) w.heap.size ev0 none 0 := (hk6 _ (by omega)).trans hZ
       have hd6 : DotsIn (WX.setCell ⟨w.heap.size + 1, 6, none⟩ (.int .i64 1)) ad l := hd.keep (fun A off h _ => hk6 _ (by have := hdz A off h; omega))
       clear HV2 q6 z6 hk6 hE hR hZ hd hF4 h04
       generalize WX.setCell ⟨w.heap.size + 1, 6, none⟩ (.int .i64 1) = WY at *
       have HIt := Lib.hid (item_r R (w.heap.size + 1) ro _ ad cap WY hrl hR6 hE6 (by omega))
       go_upto_region 14 with (go_at_call 168; (with_reducible refine HIt.out.mono ?_); rintro x wz ⟨rfl, hR, hE, hFi⟩)
       have hZ : EvBlk wz w.heap.size ev0 none 0 := (hFi.block _ hZ6.lt (by rintro (h | h) <;> omega)).trans hZ6
       have hd : DotsIn wz ad l := hd6.keep (fun A off h hne => by
        have hA := hdz A off h
        have hlt : A < WY.heap.size := by
            rcases hd6 with h0 | ⟨A', off', h', hd'⟩
            ·exact absurd h0 hne
            ·rw [h] at h'; cases h'; exact World.block_lt_of_cell? WY _ (hd'.dev 0 (List.length_pos_iff.2 hne))
        exact hFi.block A hlt (by rintro (h | h) <;> omega))
       have hF : Fr (isR R) w wz := fr_new hF0 (hF6.again hFi) (by omega)
       have t1 := rText_fit 256 ro
       have t2 := rText_fit 256 (rText 256 ro).1
       have t3 := rText_fit 256 (rText 256 (rText 256 ro).1).1
       have t4 := rText_fit 1024 (rText 256 (rText 256 (rText 256 ro).1).1).1
       have hsm : EvSmall (withItem (⟨d, s, 1, key0, ⟨ByteArray.empty, b1, b2, b3, b4, 0, 0, 0⟩, l⟩ : Ev) ro) := ⟨by show (rText 256 ro).2.length ≤ _; omega, by show (rText 256 (rText 256 ro).1).2.length ≤ _; omega, by show (rText 256 (rText 256 (rText 256 ro).1).1).2.length ≤ _; omega, by show (rText 1024 (rText 256 (rText 256 (rText 256 ro).1).1).1).2.length ≤ _; omega, by show l.length ≤ _; omega⟩
       clear t1 t2 t3 t4 hFi hd6 hZ6 hE6 hR6 hF6 HIt
       have hs := hsm
       have hRt0 := fun (W : World) (h : DotsIn W ad (withItem (⟨d, s, 1, key0, ⟨ByteArray.empty, b1, b2, b3, b4, 0, 0, 0⟩, l⟩ : Ev) ro).over) => eventRight_any (withItem (⟨d, s, 1, key0, ⟨ByteArray.empty, b1, b2, b3, b4, 0, 0, 0⟩, l⟩ : Ev) ro) ad cap W hs h
       by_cases hxe : (rItem ro).e = 0
       ·have hq1 : ((rItem ro).e == 0) = true := beq_iff_eq.2 hxe
        have hq2 : ((rItem ro).e != 0) = false := by rw [bne_eq_false_iff_eq]; exact hxe
        cases hok : evOk (withItem (⟨d, s, 1, key0, ⟨ByteArray.empty, b1, b2, b3, b4, 0, 0, 0⟩, l⟩ : Ev) ro) with
        | true =>
          have HE := Lib.hid (rEv_ok HX.out hxe hok)
          rw [hok] at hRt0
          have HRt := Lib.hid hRt0
          clear hRt0 hok hxe
          go_wp2_with (first
              | (go_at_call 162; (with_reducible refine (HEr.out _ _ hR).mono ?_); rintro x w3 ⟨rfl, rfl⟩)
              | ((with_reducible refine wpList_load_ev _ (w.heap.size + 1) (withItem (⟨d, s, 1, key0, ⟨ByteArray.empty, b1, b2, b3, b4, 0, 0, 0⟩, l⟩ : Ev) ro) ad cap hE.cell ?_ rfl ?_); exact rfl)
              | (go_at_call 32; (with_reducible refine (HRt.out _ hd).mono ?_); rintro x w4 ⟨rfl, hb⟩; replace hZ := hZ.below hb; replace hE := hE.below hb; replace hR := hR.below hb; replace hd := hd.kept hb; replace hF := hF.again (Fr.of_below hb))
              | (refine wpList_store_row rfl 34 _ _ rfl w.heap.size (evCells (withItem (⟨d, s, 1, key0, ⟨ByteArray.empty, b1, b2, b3, b4, 0, 0, 0⟩, l⟩ : Ev) ro) ad cap).toArray rfl rfl 34 (evCells ev0 none 0).toArray hZ (by kernel_rfl) rfl (by kernel_rfl) ?_))
          refine ret_cell 2 34 34 w.heap.size (evCells (withItem (⟨d, s, 1, key0, ⟨ByteArray.empty, b1, b2, b3, b4, 0, 0, 0⟩, l⟩ : Ev) ro) ad cap).toArray _ rfl rfl (setRow_heap _ _ _ _ _ _ hZ) Tryz.underlying34 rfl (by kernel_rfl) rfl ?_
          rw [HE.out]
          exact ⟨ad, cap, rfl, hd.setRow _ (fun A off h => by have := hdz A off h; omega), hR.setRow (by omega), hF.setRow (Or.inl (Nat.le_refl _)) _, fun A off h => by have := hdz A off h; omega⟩
        | false =>
          have HE := Lib.hid (rEv_bad HX.out hxe hok)
          have HFF : Hid (rFail (rItem ro) 1 = ⟨(rItem ro).b, 1⟩) := by unfold Hid rFail; rw [if_pos hxe]
          have HFl := Lib.hid (fun (W : World) (h : RdAt W R (rItem ro)) => Fail_r R (rItem ro) 1 W h)
          rw [hok] at hRt0
          have HRt := Lib.hid hRt0
          clear hRt0 hok hxe
          go_wp2_with (first
              | (go_at_call 162; (with_reducible refine (HEr.out _ _ hR).mono ?_); rintro x w3 ⟨rfl, rfl⟩)
              | ((with_reducible refine wpList_load_ev _ (w.heap.size + 1) (withItem (⟨d, s, 1, key0, ⟨ByteArray.empty, b1, b2, b3, b4, 0, 0, 0⟩, l⟩ : Ev) ro) ad cap hE.cell ?_ rfl ?_); exact rfl)
              | (go_at_call 32; (with_reducible refine (HRt.out _ hd).mono ?_); rintro x w4 ⟨rfl, hb⟩; replace hZ := hZ.below hb; replace hE := hE.below hb; replace hR := hR.below hb; replace hd := hd.kept hb; replace hF := hF.again (Fr.of_below hb))
              | (go_at_call 136; (with_reducible refine (HFl.out _ hR).mono ?_); rintro x w5 ⟨rfl, hR, hF1⟩; rw [HFF.out] at hR; replace hZ := hZ.fr hF1 (by omega); replace hF := hF.again hF1)
              | (refine Great.wpList_buildTo rfl 34 _ rfl _ rfl #[.int .i64 0, .int .i64 0, .int .i64 0, .int .i64 0, .int .i64 0, .int .i64 0, .int .i64 0, .string ⟨#[]⟩, .string ⟨#[]⟩, .string ⟨#[]⟩, .string ⟨#[]⟩, .bool false, .bool false, .bool false, .bool false, .int .i64 0, .int .i64 0, .int .i64 0, .slice none 0 0] (by kernel_rfl) ?_)
              | (refine wpList_store_row rfl 34 _ _ rfl w.heap.size #[.int .i64 0, .int .i64 0, .int .i64 0, .int .i64 0, .int .i64 0, .int .i64 0, .int .i64 0, .string ⟨#[]⟩, .string ⟨#[]⟩, .string ⟨#[]⟩, .string ⟨#[]⟩, .bool false, .bool false, .bool false, .bool false, .int .i64 0, .int .i64 0, .int .i64 0, .slice none 0 0] rfl rfl 34 (evCells ev0 none 0).toArray hZ (by kernel_rfl) rfl (by kernel_rfl) ?_))
          refine ret_cell 2 34 34 w.heap.size #[.int .i64 0, .int .i64 0, .int .i64 0, .int .i64 0, .int .i64 0, .int .i64 0, .int .i64 0, .string ⟨#[]⟩, .string ⟨#[]⟩, .string ⟨#[]⟩, .string ⟨#[]⟩, .bool false, .bool false, .bool false, .bool false, .int .i64 0, .int .i64 0, .int .i64 0, .slice none 0 0] _ rfl rfl (setRow_heap _ _ _ _ _ _ hZ) Tryz.underlying34 rfl (by kernel_rfl) rfl ?_
          rw [HE.out]
          exact ⟨none, 0, rfl, Or.inl rfl, hR.setRow (by omega), hF.setRow (Or.inl (Nat.le_refl _)) _, fun A off h => by cases h⟩
       ·have hq1 : ((rItem ro).e == 0) = false := beq_eq_false_iff_ne.2 hxe
        have hq2 : ((rItem ro).e != 0) = true := by rw [bne_iff_ne]; exact hxe
        have HE := Lib.hid (rEv_err HX.out hxe)
        clear hRt0 hxe
        go_wp2_with (first
            | (go_at_call 162; (with_reducible refine (HEr.out _ _ hR).mono ?_); rintro x w3 ⟨rfl, rfl⟩)
            | (refine Great.wpList_buildTo rfl 34 _ rfl _ rfl #[.int .i64 0, .int .i64 0, .int .i64 0, .int .i64 0, .int .i64 0, .int .i64 0, .int .i64 0, .string ⟨#[]⟩, .string ⟨#[]⟩, .string ⟨#[]⟩, .string ⟨#[]⟩, .bool false, .bool false, .bool false, .bool false, .int .i64 0, .int .i64 0, .int .i64 0, .slice none 0 0] (by kernel_rfl) ?_)
            | (refine wpList_store_row rfl 34 _ _ rfl w.heap.size #[.int .i64 0, .int .i64 0, .int .i64 0, .int .i64 0, .int .i64 0, .int .i64 0, .int .i64 0, .string ⟨#[]⟩, .string ⟨#[]⟩, .string ⟨#[]⟩, .string ⟨#[]⟩, .bool false, .bool false, .bool false, .bool false, .int .i64 0, .int .i64 0, .int .i64 0, .slice none 0 0] rfl rfl 34 (evCells ev0 none 0).toArray hZ (by kernel_rfl) rfl (by kernel_rfl) ?_))
        refine ret_cell 2 34 34 w.heap.size #[.int .i64 0, .int .i64 0, .int .i64 0, .int .i64 0, .int .i64 0, .int .i64 0, .int .i64 0, .string ⟨#[]⟩, .string ⟨#[]⟩, .string ⟨#[]⟩, .string ⟨#[]⟩, .bool false, .bool false, .bool false, .bool false, .int .i64 0, .int .i64 0, .int .i64 0, .slice none 0 0] _ rfl rfl (setRow_heap _ _ _ _ _ _ hZ) Tryz.underlying34 rfl (by kernel_rfl) rfl ?_
        rw [HE.out]
        exact ⟨none, 0, rfl, Or.inl rfl, hR.setRow (by omega), hF.setRow (Or.inl (Nat.le_refl _)) _, fun A off h => by cases h⟩
  ·have hd0 : decide (0 < m) = false := decide_eq_false hm0
   have hrl2 : ro = rr ∧ l = lr := by
        obtain rfl : m = 0 := by omega
        have h := HP.out
        simp only [rDots, Prod.mk.injEq, List.append_nil] at h
        exact h
   obtain ⟨rfl, rfl⟩ := hrl2
   clear HP
   have hF0 := hF
   go_upto_region 9 with fail
   clear hd0
   obtain ⟨ad, cap, hE, hown, hR, hF5⟩ := HI
   have hd : DotsIn wr ad l := by obtain ⟨_, _, h, hd⟩ := own_dots hown; cases h; exact hd
   have hdz : ∀ A off, ad = some ⟨A, off, none⟩ → W5.heap.size ≤ A := own_at hown
   have hZr : EvBlk wr w.heap.size ev0 none 0 := (hF5.block _ (by omega) (by rintro (h | h) <;> omega)).trans hZ
   have hfl6 : FlagsIn W3 wr fv fl := by
        rcases hfl5 with h | ⟨B, h1, h2, h3, h4⟩
        ·exact Or.inl h
        ·exact Or.inr ⟨B, h1, fun j hj => hF5.kept (h2 j hj) (by rintro (h | h) <;> simp only at h <;> omega), h3, Nat.lt_of_lt_of_le h4 hF5.size⟩
   have hll : l.length ≤ 64 := by omega
   clear hown hZ hfl5
   have hZ := hZr
   clear hZr
   rcases HFI.out with hf0 | ⟨b0, b1, b2, b3, b4, hf5⟩
   ·have HX := Lib.hid (HV.out.trans (if_pos hf0))
    have hlen : ∃ fa : Option Addr, fv = .slice fa 0 0 := by
     rcases hfl6 with h | ⟨B, h1, _⟩
     ·exact ⟨_, h.2⟩
     ·rw [hf0] at h1; exact ⟨_, h1⟩
    obtain ⟨fa, rfl⟩ := hlen
    clear hf0 hfl6
    have hF : Fr (isR R) w wr := fr_new hF0 hF5 (by omega)
    have hs := (⟨Nat.zero_le _, Nat.zero_le _, Nat.zero_le _, Nat.zero_le _, by simp only; omega⟩ : EvSmall ⟨d, s, 2, key0, ck0, l⟩)
    have hRt0 := fun (W : World) (h : DotsIn W ad (⟨d, s, 2, key0, ck0, l⟩ : Ev).over) => eventRight_any (⟨d, s, 2, key0, ck0, l⟩ : Ev) ad cap W hs h
    by_cases hxe : ro.e = 0
    ·have hq1 : (ro.e == 0) = true := beq_iff_eq.2 hxe
     have hq2 : (ro.e != 0) = false := by rw [bne_eq_false_iff_eq]; exact hxe
     cases hok : evOk (⟨d, s, 2, key0, ck0, l⟩ : Ev) with
     | true =>
       have HE := Lib.hid (rEv_ok HX.out hxe hok)
       rw [hok] at hRt0
       have HRt := Lib.hid hRt0
       clear hRt0 hok hxe
       go_wp2_with (first
        | (go_at_call 162; (with_reducible refine (HEr.out _ _ hR).mono ?_); rintro x w3 ⟨rfl, rfl⟩)
        | ((with_reducible refine wpList_load_ev _ (w.heap.size + 1) (⟨d, s, 2, key0, ck0, l⟩ : Ev) ad cap hE.cell ?_ rfl ?_); exact rfl)
        | (go_at_call 32; (with_reducible refine (HRt.out _ hd).mono ?_); rintro x w4 ⟨rfl, hb⟩; replace hZ := hZ.below hb; replace hE := hE.below hb; replace hR := hR.below hb; replace hd := hd.kept hb; replace hF := hF.again (Fr.of_below hb))
        | (refine wpList_store_row rfl 34 _ _ rfl w.heap.size (evCells (⟨d, s, 2, key0, ck0, l⟩ : Ev) ad cap).toArray rfl rfl 34 (evCells ev0 none 0).toArray hZ (by kernel_rfl) rfl (by kernel_rfl) ?_))
       refine ret_cell 2 34 34 w.heap.size (evCells (⟨d, s, 2, key0, ck0, l⟩ : Ev) ad cap).toArray _ rfl rfl (setRow_heap _ _ _ _ _ _ hZ) Tryz.underlying34 rfl (by kernel_rfl) rfl ?_
       rw [HE.out]
       exact ⟨ad, cap, rfl, hd.setRow _ (fun A off h => by have := hdz A off h; omega), hR.setRow (by omega), hF.setRow (Or.inl (Nat.le_refl _)) _, fun A off h => by have := hdz A off h; omega⟩
     | false =>
       have HE := Lib.hid (rEv_bad HX.out hxe hok)
       have HFF : Hid (rFail ro 1 = ⟨ro.b, 1⟩) := by unfold Hid rFail; rw [if_pos hxe]
       have HFl := Lib.hid (fun (W : World) (h : RdAt W R ro) => Fail_r R ro 1 W h)
       rw [hok] at hRt0
       have HRt := Lib.hid hRt0
       clear hRt0 hok hxe
       go_wp2_with (first
        | (go_at_call 162; (with_reducible refine (HEr.out _ _ hR).mono ?_); rintro x w3 ⟨rfl, rfl⟩)
        | ((with_reducible refine wpList_load_ev _ (w.heap.size + 1) (⟨d, s, 2, key0, ck0, l⟩ : Ev) ad cap hE.cell ?_ rfl ?_); exact rfl)
        | (go_at_call 32; (with_reducible refine (HRt.out _ hd).mono ?_); rintro x w4 ⟨rfl, hb⟩; replace hZ := hZ.below hb; replace hE := hE.below hb; replace hR := hR.below hb; replace hd := hd.kept hb; replace hF := hF.again (Fr.of_below hb))
        | (go_at_call 136; (with_reducible refine (HFl.out _ hR).mono ?_); rintro x w5 ⟨rfl, hR, hF1⟩; rw [HFF.out] at hR; replace hZ := hZ.fr hF1 (by omega); replace hF := hF.again hF1)
        | (refine Great.wpList_buildTo rfl 34 _ rfl _ rfl #[.int .i64 0, .int .i64 0, .int .i64 0, .int .i64 0, .int .i64 0, .int .i64 0, .int .i64 0, .string ⟨#[]⟩, .string ⟨#[]⟩, .string ⟨#[]⟩, .string ⟨#[]⟩, .bool false, .bool false, .bool false, .bool false, .int .i64 0, .int .i64 0, .int .i64 0, .slice none 0 0] (by kernel_rfl) ?_)
        | (refine wpList_store_row rfl 34 _ _ rfl w.heap.size #[.int .i64 0, .int .i64 0, .int .i64 0, .int .i64 0, .int .i64 0, .int .i64 0, .int .i64 0, .string ⟨#[]⟩, .string ⟨#[]⟩, .string ⟨#[]⟩, .string ⟨#[]⟩, .bool false, .bool false, .bool false, .bool false, .int .i64 0, .int .i64 0, .int .i64 0, .slice none 0 0] rfl rfl 34 (evCells ev0 none 0).toArray hZ (by kernel_rfl) rfl (by kernel_rfl) ?_))
       refine ret_cell 2 34 34 w.heap.size #[.int .i64 0, .int .i64 0, .int .i64 0, .int .i64 0, .int .i64 0, .int .i64 0, .int .i64 0, .string ⟨#[]⟩, .string ⟨#[]⟩, .string ⟨#[]⟩, .string ⟨#[]⟩, .bool false, .bool false, .bool false, .bool false, .int .i64 0, .int .i64 0, .int .i64 0, .slice none 0 0] _ rfl rfl (setRow_heap _ _ _ _ _ _ hZ) Tryz.underlying34 rfl (by kernel_rfl) rfl ?_
       rw [HE.out]
       exact ⟨none, 0, rfl, Or.inl rfl, hR.setRow (by omega), hF.setRow (Or.inl (Nat.le_refl _)) _, fun A off h => by cases h⟩
    ·have hq1 : (ro.e == 0) = false := beq_eq_false_iff_ne.2 hxe
     have hq2 : (ro.e != 0) = true := by rw [bne_iff_ne]; exact hxe
     have HE := Lib.hid (rEv_err HX.out hxe)
     clear hRt0 hxe
     go_wp2_with (first
      | (go_at_call 162; (with_reducible refine (HEr.out _ _ hR).mono ?_); rintro x w3 ⟨rfl, rfl⟩)
      | (refine Great.wpList_buildTo rfl 34 _ rfl _ rfl #[.int .i64 0, .int .i64 0, .int .i64 0, .int .i64 0, .int .i64 0, .int .i64 0, .int .i64 0, .string ⟨#[]⟩, .string ⟨#[]⟩, .string ⟨#[]⟩, .string ⟨#[]⟩, .bool false, .bool false, .bool false, .bool false, .int .i64 0, .int .i64 0, .int .i64 0, .slice none 0 0] (by kernel_rfl) ?_)
      | (refine wpList_store_row rfl 34 _ _ rfl w.heap.size #[.int .i64 0, .int .i64 0, .int .i64 0, .int .i64 0, .int .i64 0, .int .i64 0, .int .i64 0, .string ⟨#[]⟩, .string ⟨#[]⟩, .string ⟨#[]⟩, .string ⟨#[]⟩, .bool false, .bool false, .bool false, .bool false, .int .i64 0, .int .i64 0, .int .i64 0, .slice none 0 0] rfl rfl 34 (evCells ev0 none 0).toArray hZ (by kernel_rfl) rfl (by kernel_rfl) ?_))
     refine ret_cell 2 34 34 w.heap.size #[.int .i64 0, .int .i64 0, .int .i64 0, .int .i64 0, .int .i64 0, .int .i64 0, .int .i64 0, .string ⟨#[]⟩, .string ⟨#[]⟩, .string ⟨#[]⟩, .string ⟨#[]⟩, .bool false, .bool false, .bool false, .bool false, .int .i64 0, .int .i64 0, .int .i64 0, .slice none 0 0] _ rfl rfl (setRow_heap _ _ _ _ _ _ hZ) Tryz.underlying34 rfl (by kernel_rfl) rfl ?_
     rw [HE.out]
     exact ⟨none, 0, rfl, Or.inl rfl, hR.setRow (by omega), hF.setRow (Or.inl (Nat.le_refl _)) _, fun A off h => by cases h⟩
   ·have hne : fl ≠ [] := by rw [hf5]; simp
    have h5 : ∃ B, fv = .slice (some ⟨B, 0, none⟩) 5 5 ∧ BoolsAt wr B [b0, b1, b2, b3, b4] ∧ W3.heap.size ≤ B := by
     rcases hfl6 with h | ⟨B, h1, h2, h3, _⟩
     ·exact absurd h.1 hne
     ·rw [hf5] at h1 h2; exact ⟨B, h1, h2, h3⟩
    obtain ⟨B, rfl, hbo, hB3⟩ := h5
    have p0 := hbo 0 (by simp)
    have p1 := hbo 1 (by simp)
    have p2 := hbo 2 (by simp)
    have p3 := hbo 3 (by simp)
    have p4 := hbo 4 (by simp)
    simp only [List.getElem_cons_zero, List.getElem_cons_succ] at p0 p1 p2 p3 p4
    have HV2 := Lib.hid (HV.out.trans (if_neg hne))
    rw [hf5] at HV2
    simp only [flagOf, List.getD_cons_zero, List.getD_cons_succ] at HV2
    clear hfl6 hbo hne hf5
    have e11 := hE.cell 11 _ rfl
    have e12 := hE.cell 12 _ rfl
    have e13 := hE.cell 13 _ rfl
    have e14 := hE.cell 14 _ rfl
    rw [Nat.zero_add] at e11 e12 e13 e14
    have z11 := hE.free 11
    have z12 := hE.free 12
    have z13 := hE.free 13
    have z14 := hE.free 14
    go_upto_region 10 with fail
    have hset : ∀ (W : World) (o j : Nat) (v : Value), (W.setCell ⟨w.heap.size + 1, o, none⟩ v).cell? ⟨B, j, none⟩ = W.cell? ⟨B, j, none⟩ := fun W o j v => World.cell?_setCell_other _ _ _ _ (fun e => by simp only [Addr.mk.injEq] at e; omega)
    go_region_held3 (fun w' => w'.cell? ⟨B, 1, none⟩ = some (.bool b1) ∧ w'.cell? ⟨B, 2, none⟩ = some (.bool b2) ∧ w'.cell? ⟨B, 3, none⟩ = some (.bool b3) ∧ w'.cell? ⟨B, 4, none⟩ = some (.bool b4)) (first | exact ⟨p1, p2, p3, p4⟩ | (refine ⟨?_, ?_, ?_, ?_⟩ <;> simp [hset, p1, p2, p3, p4])) (fail)
    have hE4 : EvBlk ((((wr.setCell ⟨w.heap.size + 1, 11, none⟩ (.bool b1)).setCell ⟨w.heap.size + 1, 12, none⟩ (.bool b2)).setCell ⟨w.heap.size + 1, 13, none⟩ (.bool b3)).setCell ⟨w.heap.size + 1, 14, none⟩ (.bool b4)).drew (w.heap.size + 1) (⟨d, s, 2, key0, ⟨ByteArray.empty, b1, b2, b3, b4, 0, 0, 0⟩, l⟩ : Ev) ad cap := (((hE.set11 b1).set12 b2).set13 b3).set14 b4
    have hR4 : RdAt ((((wr.setCell ⟨w.heap.size + 1, 11, none⟩ (.bool b1)).setCell ⟨w.heap.size + 1, 12, none⟩ (.bool b2)).setCell ⟨w.heap.size + 1, 13, none⟩ (.bool b3)).setCell ⟨w.heap.size + 1, 14, none⟩ (.bool b4)).drew R ro := ((((hR.setCell _ (by omega)).setCell _ (by omega)).setCell _ (by omega)).setCell _ (by omega)).below (Below.refl _ _).drew
    have hF4 : Fr (isRE R (w.heap.size + 1)) W5 ((((wr.setCell ⟨w.heap.size + 1, 11, none⟩ (.bool b1)).setCell ⟨w.heap.size + 1, 12, none⟩ (.bool b2)).setCell ⟨w.heap.size + 1, 13, none⟩ (.bool b3)).setCell ⟨w.heap.size + 1, 14, none⟩ (.bool b4)).drew := ((((hF5.setCell (Or.inr (Or.inr rfl)) _).setCell (Or.inr (Or.inr rfl)) _).setCell (Or.inr (Or.inr rfl)) _).setCell (Or.inr (Or.inr rfl)) _).again (Fr.of_below (Below.refl _ _).drew)
    have hk4 : ∀ k, k ≠ w.heap.size + 1 → (((((wr.setCell ⟨w.heap.size + 1, 11, none⟩ (.bool b1)).setCell ⟨w.heap.size + 1, 12, none⟩ (.bool b2)).setCell ⟨w.heap.size + 1, 13, none⟩ (.bool b3)).setCell ⟨w.heap.size + 1, 14, none⟩ (.bool b4)).drew).heap[k]? = wr.heap[k]? := fun k hk => (heap_setCell_other _ _ _ _ (fun e => hk e.symm)).trans ((heap_setCell_other _ _ _ _ (fun e => hk e.symm)).trans ((heap_setCell_other _ _ _ _ (fun e => hk e.symm)).trans (heap_setCell_other _ _ _ _ (fun e => hk e.symm))))
    have hZ4 : EvBlk ((((wr.setCell ⟨w.heap.size + 1, 11, none⟩ (.bool b1)).setCell ⟨w.heap.size + 1, 12, none⟩ (.bool b2)).setCell ⟨w.heap.size + 1, 13, none⟩ (.bool b3)).setCell ⟨w.heap.size + 1, 14, none⟩ (.bool b4)).drew w.heap.size ev0 none 0 := (hk4 _ (by omega)).trans hZ
    have hd4 : DotsIn ((((wr.setCell ⟨w.heap.size + 1, 11, none⟩ (.bool b1)).setCell ⟨w.heap.size + 1, 12, none⟩ (.bool b2)).setCell ⟨w.heap.size + 1, 13, none⟩ (.bool b3)).setCell ⟨w.heap.size + 1, 14, none⟩ (.bool b4)).drew ad l := hd.keep (fun A off h _ => hk4 _ (by have := hdz A off h; omega))
    have h04 : (((((wr.setCell ⟨w.heap.size + 1, 11, none⟩ (.bool b1)).setCell ⟨w.heap.size + 1, 12, none⟩ (.bool b2)).setCell ⟨w.heap.size + 1, 13, none⟩ (.bool b3)).setCell ⟨w.heap.size + 1, 14, none⟩ (.bool b4)).drew).cell? ⟨B, 0, none⟩ = some (.bool b0) := by simp [hset, p0]
    clear p0 p1 p2 p3 p4 e11 e12 e13 e14 z11 z12 z13 z14 hk4 hset hE hR hZ hd hF5
    generalize ((((wr.setCell ⟨w.heap.size + 1, 11, none⟩ (.bool b1)).setCell ⟨w.heap.size + 1, 12, none⟩ (.bool b2)).setCell ⟨w.heap.size + 1, 13, none⟩ (.bool b3)).setCell ⟨w.heap.size + 1, 14, none⟩ (.bool b4)).drew = WX at *
    have hE := hE4
    have hR := hR4
    have hZ := hZ4
    have hd := hd4
    clear hE4 hR4 hZ4 hd4
    cases b0 with
    | false =>
      have HX : Hid (evGo r = (ro, (⟨d, s, 2, key0, ⟨ByteArray.empty, b1, b2, b3, b4, 0, 0, 0⟩, l⟩ : Ev))) := HV2.out.trans (if_neg (by decide))
      have hF : Fr (isR R) w WX := fr_new hF0 hF4 (by omega)
      clear HV2
      have hs := (⟨Nat.zero_le _, Nat.zero_le _, Nat.zero_le _, Nat.zero_le _, by simp only; omega⟩ : EvSmall (⟨d, s, 2, key0, ⟨ByteArray.empty, b1, b2, b3, b4, 0, 0, 0⟩, l⟩ : Ev))
      have hRt0 := fun (W : World) (h : DotsIn W ad (⟨d, s, 2, key0, ⟨ByteArray.empty, b1, b2, b3, b4, 0, 0, 0⟩, l⟩ : Ev).over) => eventRight_any (⟨d, s, 2, key0, ⟨ByteArray.empty, b1, b2, b3, b4, 0, 0, 0⟩, l⟩ : Ev) ad cap W hs h
      by_cases hxe : ro.e = 0
      ·have hq1 : (ro.e == 0) = true := beq_iff_eq.2 hxe
       have hq2 : (ro.e != 0) = false := by rw [bne_eq_false_iff_eq]; exact hxe
       cases hok : evOk (⟨d, s, 2, key0, ⟨ByteArray.empty, b1, b2, b3, b4, 0, 0, 0⟩, l⟩ : Ev) with
       | true =>
         have HE := Lib.hid (rEv_ok HX.out hxe hok)
         rw [hok] at hRt0
         have HRt := Lib.hid hRt0
         clear hRt0 hok hxe
         go_wp2_with (first
            | (go_at_call 162; (with_reducible refine (HEr.out _ _ hR).mono ?_); rintro x w3 ⟨rfl, rfl⟩)
            | ((with_reducible refine wpList_load_ev _ (w.heap.size + 1) (⟨d, s, 2, key0, ⟨ByteArray.empty, b1, b2, b3, b4, 0, 0, 0⟩, l⟩ : Ev) ad cap hE.cell ?_ rfl ?_); exact rfl)
            | (go_at_call 32; (with_reducible refine (HRt.out _ hd).mono ?_); rintro x w4 ⟨rfl, hb⟩; replace hZ := hZ.below hb; replace hE := hE.below hb; replace hR := hR.below hb; replace hd := hd.kept hb; replace hF := hF.again (Fr.of_below hb))
            | (refine wpList_store_row rfl 34 _ _ rfl w.heap.size (evCells (⟨d, s, 2, key0, ⟨ByteArray.empty, b1, b2, b3, b4, 0, 0, 0⟩, l⟩ : Ev) ad cap).toArray rfl rfl 34 (evCells ev0 none 0).toArray hZ (by kernel_rfl) rfl (by kernel_rfl) ?_))
         refine ret_cell 2 34 34 w.heap.size (evCells (⟨d, s, 2, key0, ⟨ByteArray.empty, b1, b2, b3, b4, 0, 0, 0⟩, l⟩ : Ev) ad cap).toArray _ rfl rfl (setRow_heap _ _ _ _ _ _ hZ) Tryz.underlying34 rfl (by kernel_rfl) rfl ?_
         rw [HE.out]
         exact ⟨ad, cap, rfl, hd.setRow _ (fun A off h => by have := hdz A off h; omega), hR.setRow (by omega), hF.setRow (Or.inl (Nat.le_refl _)) _, fun A off h => by have := hdz A off h; omega⟩
       | false =>
         have HE := Lib.hid (rEv_bad HX.out hxe hok)
         have HFF : Hid (rFail ro 1 = ⟨ro.b, 1⟩) := by unfold Hid rFail; rw [if_pos hxe]
         have HFl := Lib.hid (fun (W : World) (h : RdAt W R ro) => Fail_r R ro 1 W h)
         rw [hok] at hRt0
         have HRt := Lib.hid hRt0
         clear hRt0 hok hxe
         go_wp2_with (first
            | (go_at_call 162; (with_reducible refine (HEr.out _ _ hR).mono ?_); rintro x w3 ⟨rfl, rfl⟩)
            | ((with_reducible refine wpList_load_ev _ (w.heap.size + 1) (⟨d, s, 2, key0, ⟨ByteArray.empty, b1, b2, b3, b4, 0, 0, 0⟩, l⟩ : Ev) ad cap hE.cell ?_ rfl ?_); exact rfl)
            | (go_at_call 32; (with_reducible refine (HRt.out _ hd).mono ?_); rintro x w4 ⟨rfl, hb⟩; replace hZ := hZ.below hb; replace hE := hE.below hb; replace hR := hR.below hb; replace hd := hd.kept hb; replace hF := hF.again (Fr.of_below hb))
            | (go_at_call 136; (with_reducible refine (HFl.out _ hR).mono ?_); rintro x w5 ⟨rfl, hR, hF1⟩; rw [HFF.out] at hR; replace hZ := hZ.fr hF1 (by omega); replace hF := hF.again hF1)
            | (refine Great.wpList_buildTo rfl 34 _ rfl _ rfl #[.int .i64 0, .int .i64 0, .int .i64 0, .int .i64 0, .int .i64 0, .int .i64 0, .int .i64 0, .string ⟨#[]⟩, .string ⟨#[]⟩, .string ⟨#[]⟩, .string ⟨#[]⟩, .bool false, .bool false, .bool false, .bool false, .int .i64 0, .int .i64 0, .int .i64 0, .slice none 0 0] (by kernel_rfl) ?_)
            | (refine wpList_store_row rfl 34 _ _ rfl w.heap.size #[.int .i64 0, .int .i64 0, .int .i64 0, .int .i64 0, .int .i64 0, .int .i64 0, .int .i64 0, .string ⟨#[]⟩, .string ⟨#[]⟩, .string ⟨#[]⟩, .string ⟨#[]⟩, .bool false, .bool false, .bool false, .bool false, .int .i64 0, .int .i64 0, .int .i64 0, .slice none 0 0] rfl rfl 34 (evCells ev0 none 0).toArray hZ (by kernel_rfl) rfl (by kernel_rfl) ?_))
         refine ret_cell 2 34 34 w.heap.size #[.int .i64 0, .int .i64 0, .int .i64 0, .int .i64 0, .int .i64 0, .int .i64 0, .int .i64 0, .string ⟨#[]⟩, .string ⟨#[]⟩, .string ⟨#[]⟩, .string ⟨#[]⟩, .bool false, .bool false, .bool false, .bool false, .int .i64 0, .int .i64 0, .int .i64 0, .slice none 0 0] _ rfl rfl (setRow_heap _ _ _ _ _ _ hZ) Tryz.underlying34 rfl (by kernel_rfl) rfl ?_
         rw [HE.out]
         exact ⟨none, 0, rfl, Or.inl rfl, hR.setRow (by omega), hF.setRow (Or.inl (Nat.le_refl _)) _, fun A off h => by cases h⟩
      ·have hq1 : (ro.e == 0) = false := beq_eq_false_iff_ne.2 hxe
       have hq2 : (ro.e != 0) = true := by rw [bne_iff_ne]; exact hxe
       have HE := Lib.hid (rEv_err HX.out hxe)
       clear hRt0 hxe
       go_wp2_with (first
        | (go_at_call 162; (with_reducible refine (HEr.out _ _ hR).mono ?_); rintro x w3 ⟨rfl, rfl⟩)
        | (refine Great.wpList_buildTo rfl 34 _ rfl _ rfl #[.int .i64 0, .int .i64 0, .int .i64 0, .int .i64 0, .int .i64 0, .int .i64 0, .int .i64 0, .string ⟨#[]⟩, .string ⟨#[]⟩, .string ⟨#[]⟩, .string ⟨#[]⟩, .bool false, .bool false, .bool false, .bool false, .int .i64 0, .int .i64 0, .int .i64 0, .slice none 0 0] (by kernel_rfl) ?_)
        | (refine wpList_store_row rfl 34 _ _ rfl w.heap.size #[.int .i64 0, .int .i64 0, .int .i64 0, .int .i64 0, .int .i64 0, .int .i64 0, .int .i64 0, .string ⟨#[]⟩, .string ⟨#[]⟩, .string ⟨#[]⟩, .string ⟨#[]⟩, .bool false, .bool false, .bool false, .bool false, .int .i64 0, .int .i64 0, .int .i64 0, .slice none 0 0] rfl rfl 34 (evCells ev0 none 0).toArray hZ (by kernel_rfl) rfl (by kernel_rfl) ?_))
       refine ret_cell 2 34 34 w.heap.size #[.int .i64 0, .int .i64 0, .int .i64 0, .int .i64 0, .int .i64 0, .int .i64 0, .int .i64 0, .string ⟨#[]⟩, .string ⟨#[]⟩, .string ⟨#[]⟩, .string ⟨#[]⟩, .bool false, .bool false, .bool false, .bool false, .int .i64 0, .int .i64 0, .int .i64 0, .slice none 0 0] _ rfl rfl (setRow_heap _ _ _ _ _ _ hZ) Tryz.underlying34 rfl (by kernel_rfl) rfl ?_
       rw [HE.out]
       exact ⟨none, 0, rfl, Or.inl rfl, hR.setRow (by omega), hF.setRow (Or.inl (Nat.le_refl _)) _, fun A off h => by cases h⟩
    | true =>
      have HX : Hid (evGo r = (rItem ro, (withItem (⟨d, s, 1, key0, ⟨ByteArray.empty, b1, b2, b3, b4, 0, 0, 0⟩, l⟩ : Ev) ro))) := HV2.out.trans (if_pos rfl)
      have q6 := hE.cell 6 _ rfl
      rw [Nat.zero_add] at q6
      have z6 := hE.free 6
      go_upto_region 13 with fail
      have hE6 := hE.set6 1
      have hR6 := hR.setCell (g := w.heap.size + 1) (o := 6) (.int .i64 1) (by omega)
      have hF6 := hF4.setCell (p := ⟨w.heap.size + 1, 6, none⟩) (Or.inr (Or.inr rfl)) (.int .i64 1)
      have hk6 : ∀ k, k ≠ w.heap.size + 1 → (WX.setCell ⟨w.heap.size + 1, 6, none⟩ (.int .i64 1)).heap[k]? = WX.heap[k]? := fun k hk => heap_setCell_other _ _ _ _ (fun e => hk e.symm)
      have hZ6 : EvBlk (WX.setCell ⟨w.heap.size + 1, 6, none⟩ (.int .i64 1)) w.heap.size ev0 none 0 := (hk6 _ (by omega)).trans hZ
      have hd6 : DotsIn (WX.setCell ⟨w.heap.size + 1, 6, none⟩ (.int .i64 1)) ad l := hd.keep (fun A off h _ => hk6 _ (by have := hdz A off h; omega))
      clear HV2 q6 z6 hk6 hE hR hZ hd hF4 h04
      generalize WX.setCell ⟨w.heap.size + 1, 6, none⟩ (.int .i64 1) = WY at *
      have HIt := Lib.hid (item_r R (w.heap.size + 1) ro _ ad cap WY hrl hR6 hE6 (by omega))
      go_upto_region 14 with (go_at_call 168; (with_reducible refine HIt.out.mono ?_); rintro x wz ⟨rfl, hR, hE, hFi⟩)
      have hZ : EvBlk wz w.heap.size ev0 none 0 := (hFi.block _ hZ6.lt (by rintro (h | h) <;> omega)).trans hZ6
      have hd : DotsIn wz ad l := hd6.keep (fun A off h hne => by
       have hA := hdz A off h
       have hlt : A < WY.heap.size := by
        rcases hd6 with h0 | ⟨A', off', h', hd'⟩
        ·exact absurd h0 hne
        ·rw [h] at h'; cases h'; exact World.block_lt_of_cell? WY _ (hd'.dev 0 (List.length_pos_iff.2 hne))
       exact hFi.block A hlt (by rintro (h | h) <;> omega))
      have hF : Fr (isR R) w wz := fr_new hF0 (hF6.again hFi) (by omega)
      have t1 := rText_fit 256 ro
      have t2 := rText_fit 256 (rText 256 ro).1
      have t3 := rText_fit 256 (rText 256 (rText 256 ro).1).1
      have t4 := rText_fit 1024 (rText 256 (rText 256 (rText 256 ro).1).1).1
      have hsm : EvSmall (withItem (⟨d, s, 1, key0, ⟨ByteArray.empty, b1, b2, b3, b4, 0, 0, 0⟩, l⟩ : Ev) ro) := ⟨by show (rText 256 ro).2.length ≤ _; omega, by show (rText 256 (rText 256 ro).1).2.length ≤ _; omega, by show (rText 256 (rText 256 (rText 256 ro).1).1).2.length ≤ _; omega, by show (rText 1024 (rText 256 (rText 256 (rText 256 ro).1).1).1).2.length ≤ _; omega, by show l.length ≤ _; omega⟩
      clear t1 t2 t3 t4 hFi hd6 hZ6 hE6 hR6 hF6 HIt
      have hs := hsm
      have hRt0 := fun (W : World) (h : DotsIn W ad (withItem (⟨d, s, 1, key0, ⟨ByteArray.empty, b1, b2, b3, b4, 0, 0, 0⟩, l⟩ : Ev) ro).over) => eventRight_any (withItem (⟨d, s, 1, key0, ⟨ByteArray.empty, b1, b2, b3, b4, 0, 0, 0⟩, l⟩ : Ev) ro) ad cap W hs h
      by_cases hxe : (rItem ro).e = 0
      ·have hq1 : ((rItem ro).e == 0) = true := beq_iff_eq.2 hxe
       have hq2 : ((rItem ro).e != 0) = false := by rw [bne_eq_false_iff_eq]; exact hxe
       cases hok : evOk (withItem (⟨d, s, 1, key0, ⟨ByteArray.empty, b1, b2, b3, b4, 0, 0, 0⟩, l⟩ : Ev) ro) with
       | true =>
         have HE := Lib.hid (rEv_ok HX.out hxe hok)
         rw [hok] at hRt0
         have HRt := Lib.hid hRt0
         clear hRt0 hok hxe
         go_wp2_with (first
                | (go_at_call 162; (with_reducible refine (HEr.out _ _ hR).mono ?_); rintro x w3 ⟨rfl, rfl⟩)
                | ((with_reducible refine wpList_load_ev _ (w.heap.size + 1) (withItem (⟨d, s, 1, key0, ⟨ByteArray.empty, b1, b2, b3, b4, 0, 0, 0⟩, l⟩ : Ev) ro) ad cap hE.cell ?_ rfl ?_); exact rfl)
                | (go_at_call 32; (with_reducible refine (HRt.out _ hd).mono ?_); rintro x w4 ⟨rfl, hb⟩; replace hZ := hZ.below hb; replace hE := hE.below hb; replace hR := hR.below hb; replace hd := hd.kept hb; replace hF := hF.again (Fr.of_below hb))
                | (refine wpList_store_row rfl 34 _ _ rfl w.heap.size (evCells (withItem (⟨d, s, 1, key0, ⟨ByteArray.empty, b1, b2, b3, b4, 0, 0, 0⟩, l⟩ : Ev) ro) ad cap).toArray rfl rfl 34 (evCells ev0 none 0).toArray hZ (by kernel_rfl) rfl (by kernel_rfl) ?_))
         refine ret_cell 2 34 34 w.heap.size (evCells (withItem (⟨d, s, 1, key0, ⟨ByteArray.empty, b1, b2, b3, b4, 0, 0, 0⟩, l⟩ : Ev) ro) ad cap).toArray _ rfl rfl (setRow_heap _ _ _ _ _ _ hZ) Tryz.underlying34 rfl (by kernel_rfl) rfl ?_
         rw [HE.out]
         exact ⟨ad, cap, rfl, hd.setRow _ (fun A off h => by have := hdz A off h; omega), hR.setRow (by omega), hF.setRow (Or.inl (Nat.le_refl _)) _, fun A off h => by have := hdz A off h; omega⟩
       | false =>
         have HE := Lib.hid (rEv_bad HX.out hxe hok)
         have HFF : Hid (rFail (rItem ro) 1 = ⟨(rItem ro).b, 1⟩) := by unfold Hid rFail; rw [if_pos hxe]
         have HFl := Lib.hid (fun (W : World) (h : RdAt W R (rItem ro)) => Fail_r R (rItem ro) 1 W h)
         rw [hok] at hRt0
         have HRt := Lib.hid hRt0
         clear hRt0 hok hxe
         go_wp2_with (first
                | (go_at_call 162; (with_reducible refine (HEr.out _ _ hR).mono ?_); rintro x w3 ⟨rfl, rfl⟩)
                | ((with_reducible refine wpList_load_ev _ (w.heap.size + 1) (withItem (⟨d, s, 1, key0, ⟨ByteArray.empty, b1, b2, b3, b4, 0, 0, 0⟩, l⟩ : Ev) ro) ad cap hE.cell ?_ rfl ?_); exact rfl)
                | (go_at_call 32; (with_reducible refine (HRt.out _ hd).mono ?_); rintro x w4 ⟨rfl, hb⟩; replace hZ := hZ.below hb; replace hE := hE.below hb; replace hR := hR.below hb; replace hd := hd.kept hb; replace hF := hF.again (Fr.of_below hb))
                | (go_at_call 136; (with_reducible refine (HFl.out _ hR).mono ?_); rintro x w5 ⟨rfl, hR, hF1⟩; rw [HFF.out] at hR; replace hZ := hZ.fr hF1 (by omega); replace hF := hF.again hF1)
                | (refine Great.wpList_buildTo rfl 34 _ rfl _ rfl #[.int .i64 0, .int .i64 0, .int .i64 0, .int .i64 0, .int .i64 0, .int .i64 0, .int .i64 0, .string ⟨#[]⟩, .string ⟨#[]⟩, .string ⟨#[]⟩, .string ⟨#[]⟩, .bool false, .bool false, .bool false, .bool false, .int .i64 0, .int .i64 0, .int .i64 0, .slice none 0 0] (by kernel_rfl) ?_)
                | (refine wpList_store_row rfl 34 _ _ rfl w.heap.size #[.int .i64 0, .int .i64 0, .int .i64 0, .int .i64 0, .int .i64 0, .int .i64 0, .int .i64 0, .string ⟨#[]⟩, .string ⟨#[]⟩, .string ⟨#[]⟩, .string ⟨#[]⟩, .bool false, .bool false, .bool false, .bool false, .int .i64 0, .int .i64 0, .int .i64 0, .slice none 0 0] rfl rfl 34 (evCells ev0 none 0).toArray hZ (by kernel_rfl) rfl (by kernel_rfl) ?_))
         refine ret_cell 2 34 34 w.heap.size #[.int .i64 0, .int .i64 0, .int .i64 0, .int .i64 0, .int .i64 0, .int .i64 0, .int .i64 0, .string ⟨#[]⟩, .string ⟨#[]⟩, .string ⟨#[]⟩, .string ⟨#[]⟩, .bool false, .bool false, .bool false, .bool false, .int .i64 0, .int .i64 0, .int .i64 0, .slice none 0 0] _ rfl rfl (setRow_heap _ _ _ _ _ _ hZ) Tryz.underlying34 rfl (by kernel_rfl) rfl ?_
         rw [HE.out]
         exact ⟨none, 0, rfl, Or.inl rfl, hR.setRow (by omega), hF.setRow (Or.inl (Nat.le_refl _)) _, fun A off h => by cases h⟩
      ·have hq1 : ((rItem ro).e == 0) = false := beq_eq_false_iff_ne.2 hxe
       have hq2 : ((rItem ro).e != 0) = true := by rw [bne_iff_ne]; exact hxe
       have HE := Lib.hid (rEv_err HX.out hxe)
       clear hRt0 hxe
       go_wp2_with (first
        | (go_at_call 162; (with_reducible refine (HEr.out _ _ hR).mono ?_); rintro x w3 ⟨rfl, rfl⟩)
        | (refine Great.wpList_buildTo rfl 34 _ rfl _ rfl #[.int .i64 0, .int .i64 0, .int .i64 0, .int .i64 0, .int .i64 0, .int .i64 0, .int .i64 0, .string ⟨#[]⟩, .string ⟨#[]⟩, .string ⟨#[]⟩, .string ⟨#[]⟩, .bool false, .bool false, .bool false, .bool false, .int .i64 0, .int .i64 0, .int .i64 0, .slice none 0 0] (by kernel_rfl) ?_)
        | (refine wpList_store_row rfl 34 _ _ rfl w.heap.size #[.int .i64 0, .int .i64 0, .int .i64 0, .int .i64 0, .int .i64 0, .int .i64 0, .int .i64 0, .string ⟨#[]⟩, .string ⟨#[]⟩, .string ⟨#[]⟩, .string ⟨#[]⟩, .bool false, .bool false, .bool false, .bool false, .int .i64 0, .int .i64 0, .int .i64 0, .slice none 0 0] rfl rfl 34 (evCells ev0 none 0).toArray hZ (by kernel_rfl) rfl (by kernel_rfl) ?_))
       refine ret_cell 2 34 34 w.heap.size #[.int .i64 0, .int .i64 0, .int .i64 0, .int .i64 0, .int .i64 0, .int .i64 0, .int .i64 0, .string ⟨#[]⟩, .string ⟨#[]⟩, .string ⟨#[]⟩, .string ⟨#[]⟩, .bool false, .bool false, .bool false, .bool false, .int .i64 0, .int .i64 0, .int .i64 0, .slice none 0 0] _ rfl rfl (setRow_heap _ _ _ _ _ _ hZ) Tryz.underlying34 rfl (by kernel_rfl) rfl ?_
       rw [HE.out]
       exact ⟨none, 0, rfl, Or.inl rfl, hR.setRow (by omega), hF.setRow (Or.inl (Nat.le_refl _)) _, fun A off h => by cases h⟩
end Go.Proofs.YtohcmljigcdmbaaGreat
