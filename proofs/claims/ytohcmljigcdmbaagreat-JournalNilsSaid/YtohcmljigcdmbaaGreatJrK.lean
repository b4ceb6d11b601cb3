/- What a journal answers of itself; the journal law's own example. Conditions: as in the text. -/
import Derived.Test.YtohcmljigcdmbaaGreatJrN
import Derived.Test.YtohcmljigcdmbaaGreatEq
import Derived.Test.YtohcmljigcdmbaaGreatOpen
set_option linter.unusedSimpArgs false
set_option linter.unusedVariables false
set_option linter.unnecessarySimpa false
set_option maxHeartbeats 16000000
set_option maxRecDepth 100000
namespace Go.Proofs.YtohcmljigcdmbaaGreat
open Go.RowKit
section
variable {j d m : Nat} {dv ic : Int} {st : Stamp} {du : Value}
theorem jMap_any (w : World) (h : JrAt w j d dv ic st m du) : Calls Tryz.prog 12 #[.pointer (some ⟨j, 0, none⟩)] w fun x w' => x = .returned (.pointer (some ⟨m, 0, none⟩)) ∧ Below w.heap.size w w' := by
 have z6 := h.cell 6 _ rfl
 clear h
 go_enter Tryz.func12, Tryz.ntmps12
 go_wp2
 go_ret
 exact ⟨rfl, by go_grown⟩
end
theorem jActor_any {j d m : Nat} {dv ic : Int} {st : Stamp} {du : Value} (w : World) (h : JrAt w j d dv ic st m du) : Calls Tryz.prog 15 #[.pointer (some ⟨j, 0, none⟩)] w fun x w' => x = .returned (.agg #[.int .i64 dv, .int .i64 ic]) ∧ Below w.heap.size w w' := by
 go_enter Tryz.func15, Tryz.ntmps15
 go_upto_region 3 with fail
 refine wp_name (fun W hW => ?_)
 have hbt : Below w.heap.size w W.drew := by rw [hW.out]; go_grown
 have hZ : W.drew.heap[w.heap.size]? = some (.cells #[.int .i64 0, .int .i64 0] 23 (0, 0)) := by rw [hW.out]; exact heap_alloc_last w _
 have hj := h.below hbt
 have z1 := hj.cell 1 _ rfl
 have z2 := hj.cell 2 _ rfl
 clear hW h hj
 refine wp_region_noPanic ?_
 refine wp_region_late (fun X => Below W.drew.heap.size W.drew X) [11] (by kernel_rfl) ?_
 have hb0 : Below W.drew.heap.size W.drew W.drew := Below.refl _ _
 refine tL (v := ?_) 0 6 rfl (Or.inl ⟨by rfl, ?_⟩) ?_
 case refine_2 => (rintro w hSw; have s0 := kept hSw z1; have s1 := kept hSw z2; go_simp; try with_reducible rfl)
 try simp only [pS]
 refine tL (v := ?_) 1 7 rfl (Or.inl ⟨by rfl, ?_⟩) ?_
 case refine_2 => (rintro w hSw; have s0 := kept hSw z1; have s1 := kept hSw z2; go_simp; try with_reducible rfl)
 try simp only [pS]
 refine tL (v := ?_) 2 8 rfl (Or.inl ⟨by rfl, ?_⟩) ?_
 case refine_2 => (rintro w hSw; have s0 := kept hSw z1; have s1 := kept hSw z2; go_simp; try with_reducible rfl)
 try simp only [pS]
 refine tL (v := ?_) 3 9 rfl (Or.inl ⟨by rfl, ?_⟩) ?_
 case refine_2 => (rintro w hSw; have s0 := kept hSw z1; have s1 := kept hSw z2; go_simp; try with_reducible rfl)
 try simp only [pS]
 refine tL (v := ?_) 4 10 rfl (Or.inl ⟨by rfl, ?_⟩) ?_
 case refine_2 => (rintro w hSw; have s0 := kept hSw z1; have s1 := kept hSw z2; go_simp; try with_reducible rfl)
 try simp only [pS]
 refine tL (v := ?_) 5 11 rfl (Or.inl ⟨by rfl, ?_⟩) ?_
 case refine_2 => (rintro w hSw; have s0 := kept hSw z1; have s1 := kept hSw z2; go_simp; try with_reducible rfl)
 try simp only [pS]
 refine tL (v := ?_) 6 12 rfl (Or.inl ⟨by rfl, ?_⟩) ?_
 case refine_2 => (rintro w hSw; have s0 := kept hSw z1; have s1 := kept hSw z2; go_simp; try with_reducible rfl)
 try simp only [pS]
 refine tL (v := ?_) 7 13 rfl (Or.inl ⟨by rfl, ?_⟩) ?_
 case refine_2 => (rintro w hSw; have s0 := kept hSw z1; have s1 := kept hSw z2; go_simp; try with_reducible rfl)
 try simp only [pS]
 refine tL (v := ?_) 8 14 rfl (Or.inl ⟨by rfl, ?_⟩) ?_
 case refine_2 => (rintro w hSw; have s0 := kept hSw z1; have s1 := kept hSw z2; go_simp; try with_reducible rfl)
 try simp only [pS]
 refine tL (v := ?_) 9 15 rfl (Or.inl ⟨by rfl, ?_⟩) ?_
 case refine_2 => (rintro w hSw; have s0 := kept hSw z1; have s1 := kept hSw z2; go_simp; try with_reducible rfl)
 try simp only [pS]
 refine tL 10 16 rfl (Or.inl ⟨by rfl, fun W hSW => exec_buildJ _ _ rfl #[.int .i64 dv, .int .i64 ic] (by kernel_rfl)⟩) ?_
 try simp only [pS]
 refine wpAnyL_one (i := 11) (o := ⟨none, _, _, _, _, _⟩) (by kernel_rfl) rfl ?_
 intro K hK
 refine step_store_row (by rfl) 23 _ _ rfl w.heap.size #[.int .i64 dv, .int .i64 ic] rfl rfl 23 _ hZ (by kernel_rfl) rfl (by kernel_rfl) ?_
 refine hK.out _ _ (Or.inl (by kernel_rfl)) ?_
 clear hK K
 try simp only [pS]
 refine wpAnyL_done (by kernel_rfl) ?_ _
 refine NoPanic.normal ?_
 go_wp2
 refine ret_cell 2 23 23 w.heap.size #[.int .i64 dv, .int .i64 ic] _ rfl rfl (setRow_heap _ _ _ _ _ _ hZ) Tryz.underlying23 rfl (by kernel_rfl) rfl ?_
 exact ⟨rfl, below_setRow hbt (Nat.le_refl _) _⟩
theorem jDurable_any {j d m : Nat} {dv ic : Int} {st : Stamp} {a : Option Addr} {c : Nat} (w : World) (h : JrAt w j d dv ic st m (.slice a 0 c)) : Calls Tryz.prog 13 #[.pointer (some ⟨j, 0, none⟩)] w fun x w' => (∃ a c, x = .returned (.slice a 0 c)) ∧ Below w.heap.size w w' := by
 have z7 := h.cell 7 _ rfl
 clear h
 obtain ⟨i0, hi, hz0, hz1, hz2⟩ := info_parts Tryz.infoMark
 go_enter Tryz.func13, Tryz.ntmps13
 go_wp2_with (at_builtin; go_loud (refine wpList_append_cells rfl _ _ 50 rfl w.heap.size 112 i0 _ 3 24 Tryz.underlying50 hi hz0 hz1 hz2 rfl (by decide) _ 0 [] rfl (World.ownsRow_nil _ _ _ _) a 0 c [] rfl rfl (Or.inl rfl) (fun u hu => (nomatch hu)) (by decide) (by decide) (Nat.le_refl _) ?_); intro v1 w1 hown1 hg1)
 have hb1 : Below w.heap.size w w1 := (Below.refl _ _).grown hg1 (Nat.le_refl _) (fun k hk => by cases hk)
 obtain ⟨a1, c1, rfl, -⟩ := own_marks (l := []) hown1
 go_ret
 exact ⟨⟨a1, c1, rfl⟩, hb1⟩
theorem jPend_any {j d m : Nat} {dv ic : Int} {mb : MB} (w : World) (h : JrE j d dv ic m mb w) : Calls Tryz.prog 14 #[.pointer (some ⟨j, 0, none⟩)] w fun x w' => x = .returned (.int .i64 0) ∧ Below w.heap.size w w' := by
 have HM := Lib.hid (fun (X : World) (h : JrE j d dv ic m mb X) => show Calls Tryz.prog 12 #[.pointer (some ⟨j, 0, none⟩)] X fun x w' => x = .returned (.pointer (some ⟨m, 0, none⟩)) ∧ Below X.heap.size X w' from by obtain ⟨a, c, h1, _⟩ := h; exact jMap_any X h1)
 have HC := Lib.hid (fun (X : World) (h : JrE j d dv ic m mb X) => show Calls Tryz.prog 27 #[.pointer (some ⟨m, 0, none⟩)] X fun x w' => (∃ a c, x = .returned (.slice a 0 c)) ∧ Below X.heap.size X w' from by
  obtain ⟨a, c, _, h2⟩ := h
  exact (mContext_any X h2 MInv.empty.ctx (by decide)).mono fun x w' ⟨y, h3, h4, h5⟩ => by
   obtain ⟨a1, c1, rfl, _⟩ := own_marks h4
   exact ⟨⟨a1, c1, h3⟩, h5⟩)
 have HD := Lib.hid (fun (X : World) (h : JrE j d dv ic m mb X) => show Calls Tryz.prog 13 #[.pointer (some ⟨j, 0, none⟩)] X fun x w' => (∃ a c, x = .returned (.slice a 0 c)) ∧ Below X.heap.size X w' from by obtain ⟨a, c, h1, _⟩ := h; exact jDurable_any X h1)
 have HO := Lib.hid (fun (X : World) (a : Option Addr) (c : Nat) => show Calls Tryz.prog 30 #[.slice a 0 c] X fun e w' => ∃ v b, e = .returned (.tuple #[.pointer (some ⟨v, 0, none⟩), .int .i64 0]) ∧ VecIn w' v b [] ∧ Below X.heap.size X w' from (vOf_yes a c [] X (Or.inl rfl) (by decide)).mono fun x w' ⟨v, b, h1, h2, h3, _⟩ => ⟨v, b, h1, h2, h3⟩)
 have HS := Lib.hid (fun (X : World) (v b : Nat) (h : VecIn X v b []) => vSum0_any X h)
 go_enter Tryz.func14, Tryz.ntmps14
 go_upto_region 2 with (first
  | (go_at_call 12; (with_reducible refine (HM.out _ h).mono ?_); rintro x w1 ⟨rfl, hb1⟩; have h1 := h.below hb1)
  | (go_at_call 27; (with_reducible refine (HC.out _ h1).mono ?_); rintro x w2 ⟨⟨a2, c2, rfl⟩, hb2⟩; have h2 := h1.below hb2)
  | (go_at_call 30; (with_reducible refine (HO.out _ a2 c2).mono ?_); rintro x w3 ⟨v3, b3, rfl, hv3, hb3⟩; have h3 := h2.below hb3))
 have hbt := below2 (below2 hb1 hb2) hb3
 clear h h1 h2 hb1 hb2 hb3 HM HC
 go_upto_region 3 with (first
  | (go_at_call 13; (with_reducible refine (HD.out _ h3).mono ?_); rintro x w4 ⟨⟨a4, c4, rfl⟩, hb4⟩)
  | (go_at_call 30; (with_reducible refine (HO.out _ a4 c4).mono ?_); rintro x w5 ⟨v5, b5, rfl, hv5, hb5⟩))
 have hv3' := hv3.kept (below2 hb4 hb5)
 have hbt5 := below2 hbt (below2 hb4 hb5)
 clear h3 hv3 hb4 hb5 hbt HO HD
 go_wp2_with (first
  | (go_at_call 31; (with_reducible refine (HS.out _ _ _ hv3').mono ?_); rintro x w6 ⟨rfl, hb6⟩; have hv6 := hv5.kept hb6)
  | (go_at_call 31; (with_reducible refine (HS.out _ _ _ hv6).mono ?_); rintro x w7 ⟨rfl, hb7⟩))
 go_ret
 exact ⟨rfl, below2 hbt5 (below2 hb6 hb7)⟩
theorem jPend_nil (w : World) : Calls Tryz.prog 14 #[.pointer none] w fun x w' => x = .returned (.int .i64 0) ∧ Below w.heap.size w w' := by
 have HM := Lib.hid jMap_nil
 have HC := Lib.hid mContext_nil
 have HD := Lib.hid jDurable_nil
 have HO := Lib.hid (fun (X : World) => show Calls Tryz.prog 30 #[.slice none 0 0] X fun e w' => ∃ v b, e = .returned (.tuple #[.pointer (some ⟨v, 0, none⟩), .int .i64 0]) ∧ VecIn w' v b [] ∧ Below X.heap.size X w' from (vOf_yes none 0 [] X (Or.inl rfl) (by decide)).mono fun x w' ⟨v, b, h1, h2, h3, _⟩ => ⟨v, b, h1, h2, h3⟩)
 have HS := Lib.hid (fun (X : World) (v b : Nat) (h : VecIn X v b []) => vSum0_any X h)
 go_enter Tryz.func14, Tryz.ntmps14
 go_upto_region 2 with (first
  | (go_at_call 12; (with_reducible refine (HM.out _).mono ?_); rintro x w1 ⟨rfl, hb1⟩)
  | (go_at_call 27; (with_reducible refine (HC.out _).mono ?_); rintro x w2 ⟨rfl, hb2⟩)
  | (go_at_call 30; (with_reducible refine (HO.out _).mono ?_); rintro x w3 ⟨v3, b3, rfl, hv3, hb3⟩))
 have hbt := below2 (below2 hb1 hb2) hb3
 clear hb1 hb2 hb3 HM HC
 go_upto_region 3 with (first
  | (go_at_call 13; (with_reducible refine (HD.out _).mono ?_); rintro x w4 ⟨rfl, hb4⟩)
  | (go_at_call 30; (with_reducible refine (HO.out _).mono ?_); rintro x w5 ⟨v5, b5, rfl, hv5, hb5⟩))
 have hv3' := hv3.kept (below2 hb4 hb5)
 have hbt5 := below2 hbt (below2 hb4 hb5)
 clear hv3 hb4 hb5 hbt HO HD
 go_wp2_with (first
  | (go_at_call 31; (with_reducible refine (HS.out _ _ _ hv3').mono ?_); rintro x w6 ⟨rfl, hb6⟩; have hv6 := hv5.kept hb6)
  | (go_at_call 31; (with_reducible refine (HS.out _ _ _ hv6).mono ?_); rintro x w7 ⟨rfl, hb7⟩))
 go_ret
 exact ⟨rfl, below2 hbt5 (below2 hb6 hb7)⟩
theorem awake34_any (w : World) : Calls Tryz.prog 5 #[] w fun e w' => e = .returned (.bool true) ∧ Below w.heap.size w w' := by
 have HN := Lib.hid (New_any w)
 have hg := noGuardActor
 have hE1 := fun (W : World) => eqActor W 9998 ⟨2, 1⟩ ⟨2, 1⟩
 have hE2 := fun (W : World) => eqActor W 9998 ⟨2, 2⟩ ⟨2, 2⟩
 rw [decide_eq_true (rfl : (⟨2, 1⟩ : Actor) = ⟨2, 1⟩)] at hE1
 rw [decide_eq_true (rfl : (⟨2, 2⟩ : Actor) = ⟨2, 2⟩)] at hE2
 go_enter Tryz.func5, Tryz.ntmps5
 go_upto_region 2 with (go_at_call 9; (with_reducible refine HN.out.mono ?_); rintro e w1 ⟨rfl, hN, hb1⟩)
 have hT := hN.tight
 have HO1 := Lib.hid (jOpen_lives (n := 0) (sb := 0) 2 (by decide) (by decide) w1 (show DkIn w1 _ (w.heap.size + 1) (walD (lives 0) 0) w.heap.size _ from hT) (fun k hk => hk.2) (by decide) (by decide) (fun _ => rfl))
 have hz1 := hb1.size
 clear hN HN hT
 go_upto_region 3 with (go_at_call 8; (refine HO1.out.mono ?_); rintro e w2 ⟨j1, m1, mb1, rfl, hE, ⟨D2, hD2⟩, hf2, -⟩)
 obtain ⟨a1, c1, hj1, -⟩ := hE
 have hb12 : Below w.heap.size w1 w2 := hf2.below hz1 (fun k hk => hk.1)
 have HO2 := Lib.hid (jOpen_lives (n := 1) 2 (by decide) (by decide) w2 hD2.exact (fun k hk => hk.2.1) (by decide) (Nat.le_refl _) (fun h => nomatch h))
 have hq2 := hD2.quietD
 have hlow : ∀ k, Ex w2 (grow (fun k => w.heap.size ≤ k ∧ k < w1.heap.size) w1) (w.heap.size + 1) w.heap.size D2 k → w.heap.size ≤ k := fun k hk => by
  rcases hk.1 with h | h
  ·exact h.1
  ·exact Nat.le_trans hz1 h
 clear HO1 hD2 hf2
 go_upto_region 4 with (go_at_call 8; (refine HO2.out.mono ?_); rintro e w3 ⟨j2, m2, mb2, rfl, hE3, -, hf3, -⟩)
 have hj13 := hj1.turn hf3 hq2
 have hbt : Below w.heap.size w w3 := (hb1.trans hb12).trans (hf3.below (Nat.le_trans hz1 hb12.size) hlow)
 have HA1 := Lib.hid (fun (X : World) (hb : Below w3.heap.size w3 X) => jActor_any X (hj13.below hb))
 have HA2 := Lib.hid (fun (X : World) (hb : Below w3.heap.size w3 X) => show Calls Tryz.prog 15 #[.pointer (some ⟨j2, 0, none⟩)] X fun x w' => x = .returned (.agg #[.int .i64 2, .int .i64 2]) ∧ Below X.heap.size X w' from by obtain ⟨a, c, h, _⟩ := hE3; exact jActor_any X (h.below hb))
 have HP := Lib.hid (fun (X : World) (hb : Below w3.heap.size w3 X) => jPend_any X (hE3.below hb))
 have HB := Lib.hid hbt
 clear hj1 hq2 hlow hf3 hj13 HO2 hb1 hb12 hbt hE3
 go_wp2_with (first
  | (go_at_call 15; (with_reducible refine (HA1.out _ (Below.refl _ _)).mono ?_); rintro x w4 ⟨rfl, hb4⟩)
  | (go_at_call 15; (with_reducible refine (HA2.out _ hb4).mono ?_); rintro x w5 ⟨rfl, hb5⟩; have hb45 := below2 hb4 hb5)
  | (go_at_call 14; (with_reducible refine (HP.out _ hb45).mono ?_); rintro x w6 ⟨rfl, hb6⟩))
 go_ret
 exact ⟨rfl, HB.out.trans ((below2 hb45 hb6).mono HB.out.size)⟩
theorem lawJn_any (e : Ev) (a : Option Addr) (cap : Nat) (dv : Int) (w : World) (h : EvIn w a cap e) :
 Calls Tryz.prog 3 #[evVal e a cap, .int .i64 dv] w fun x w' => x = .returned (.bool true) ∧ Below w.heap.size w w' := by
 have HL0 := fun (W : World) => Light_any e a cap W h.over h.name h.domain h.path h.value
 have HA := Lib.hid awake34_any
 go_enter Tryz.func3, Tryz.ntmps3
 go_upto_region 1 with fail
 refine wp_name (fun W hW => ?_)
 have hbt : Below w.heap.size w W := by rw [hW.out]; go_grown
 have hR : W.rangeAt w.heap.size 0 (evCells e a cap) := by rw [hW.out]; exact evCells_box e a cap w _
 clear hW h
 cases hl : light e with
 | false =>
   rw [hl] at HL0
   have HL := Lib.hid HL0
   clear HL0 hl
   go_wp2_with (first
    | ((with_reducible refine wpList_load_ev _ w.heap.size e a cap hR ?_ rfl ?_); exact rfl)
    | (go_at_call 4; (with_reducible refine (HL.out _).mono ?_); rintro x w1 ⟨rfl, hb⟩)
    | (go_at_call 5; (with_reducible refine (HA.out _).mono ?_); rintro x w2 ⟨rfl, hb2⟩))
   go_ret
   exact ⟨rfl, below2 (below2 hbt hb) hb2⟩
 | true =>
   rw [hl] at HL0
   have HL := Lib.hid HL0
   clear HL0 hl
   have HNo := Lib.hid (fun (X : World) => jNote_nil e a cap X)
   have HCo := Lib.hid jCompact_nil
   have HOn := Lib.hid (fun (X : World) => jOpen_nil dv X)
   have HNw := Lib.hid (fun (X : World) => New_any X)
   go_upto_region 4 with (first
    | ((with_reducible refine wpList_load_ev _ w.heap.size e a cap hR ?_ rfl ?_); exact rfl)
    | (go_at_call 4; (with_reducible refine (HL.out _).mono ?_); rintro x w1 ⟨rfl, hb1⟩; have hR1 := rangeAt_kept hR hb1; have hbt1 := below2 hbt hb1))
   clear hR hb1 hbt HL
   go_upto_region 5 with (first
    | ((with_reducible refine wpList_load_ev _ w.heap.size e a cap hR1 ?_ rfl ?_); exact rfl)
    | (go_at_call 6; (with_reducible refine (HNo.out _).mono ?_); rintro x w2 ⟨rfl, hb2⟩; have hbt2 := below2 hbt1 hb2))
   clear hR1 hb2 hbt1 HNo
   go_upto_region 6 with (go_at_call 7; (with_reducible refine (HCo.out _).mono ?_); rintro x w3 ⟨rfl, hb3⟩; have hbt3 := below2 hbt2 hb3)
   clear hb3 hbt2 HCo
   go_upto_region 7 with (go_at_call 8; (with_reducible refine (HOn.out _).mono ?_); rintro x w4 ⟨rfl, hb4⟩; have hbt4 := below2 hbt3 hb4)
   clear hb4 hbt3 HOn
   have hga := noGuardActor
   have hgs := noGuardStamp
   have hE1 := fun (W : World) => eqActor W 9998 ⟨0, 0⟩ ⟨0, 0⟩
   have hE2 := fun (W : World) => eqStamp W 9998 ⟨0, 0, 0⟩ ⟨0, 0, 0⟩
   rw [decide_eq_true (rfl : (⟨0, 0⟩ : Actor) = ⟨0, 0⟩)] at hE1
   rw [decide_eq_true (rfl : (⟨0, 0, 0⟩ : Stamp) = ⟨0, 0, 0⟩)] at hE2
   have HSy := Lib.hid jSync_nil
   have HCk := Lib.hid jCkpt_nil
   have HMp := Lib.hid jMap_nil
   have HDu := Lib.hid jDurable_nil
   have HPe := Lib.hid jPend_nil
   have HAc := Lib.hid jActor_nil
   have HLa := Lib.hid jLast_nil
   by_cases hin : 0 ≤ dv ∧ dv ≤ 63
   ·have q1 : decide ((0 : Int) ≤ dv) = true := decide_eq_true hin.1
    have q2 : decide (dv ≤ (63 : Int)) = true := decide_eq_true hin.2
    have HOp := Lib.hid (fun (X X0 : World) (h : DkIn X (fun k => X0.heap.size ≤ k) (X0.heap.size + 1) ⟨[], 0, false⟩ X0.heap.size (.map [])) (hz : X0.heap.size ≤ X.heap.size) => (jOpen_lives (n := 0) (sb := 0) dv hin.1 hin.2 X (show DkIn X _ (X0.heap.size + 1) (walD (lives 0) 0) X0.heap.size _ from h.tight) (fun k hk => hk.2) (by decide) (by decide) (fun _ => rfl)).mono fun x w' ⟨j, m, mb, h1, _, _, h2, _⟩ => show (∃ j, x = Ending.returned (.tuple #[.pointer (some ⟨j, 0, none⟩), .int .i64 0])) ∧ Below X0.heap.size X w' from ⟨⟨j, h1⟩, h2.below hz fun k hk => hk.1⟩)
    clear hin
    go_upto_region 8 with (first
        | (go_at_call 9; (with_reducible refine (HNw.out _).mono ?_); rintro x w5 ⟨rfl, hN, hb5⟩)
        | (go_at_call 8; (refine (HOp.out _ _ hN hb5.size).mono ?_); rintro x w6 ⟨⟨j6, rfl⟩, hb6⟩))
    have hbt6 := Lib.hid (below2 hbt4 (hb5.trans hb6))
    clear hN hb5 hb6 hbt4 HNw HOp
    go_wp2_with (first
        | (go_at_call 10; (with_reducible refine (HSy.out _).mono ?_); rintro x y1 ⟨rfl, hc1⟩)
        | (go_at_call 11; (with_reducible refine (HCk.out _).mono ?_); rintro x y2 ⟨rfl, hc2⟩)
        | (go_at_call 12; (with_reducible refine (HMp.out _).mono ?_); rintro x y3 ⟨rfl, hc3⟩)
        | (go_at_call 13; (with_reducible refine (HDu.out _).mono ?_); rintro x y4 ⟨rfl, hc4⟩)
        | (go_at_call 14; (with_reducible refine (HPe.out _).mono ?_); rintro x y5 ⟨rfl, hc5⟩)
        | (go_at_call 15; (with_reducible refine (HAc.out _).mono ?_); rintro x y6 ⟨rfl, hc6⟩)
        | (go_at_call 16; (with_reducible refine (HLa.out _).mono ?_); rintro x y7 ⟨rfl, hc7⟩)
        | (go_at_call 5; (with_reducible refine (HA.out _).mono ?_); rintro x y8 ⟨rfl, hc8⟩))
    go_ret
    exact ⟨rfl, hbt6.out.trans ((below2 hc1 (below2 hc2 (below2 hc3 (below2 hc4 (below2 hc5 (below2 hc6 (below2 hc7 hc8))))))).mono hbt6.out.size)⟩
   ·have HOp := Lib.hid (fun (X : World) (d : Nat) => jOpen_peer d dv X hin)
    go_upto_region 8 with (first
        | (go_at_call 9; (with_reducible refine (HNw.out _).mono ?_); rintro x w5 ⟨rfl, -, hb5⟩)
        | (go_at_call 8; (with_reducible refine (HOp.out _ _).mono ?_); rintro x w6 ⟨rfl, hb6⟩))
    have hbt6 := Lib.hid (below2 (below2 hbt4 hb5) hb6)
    clear hb5 hb6 hbt4 HNw HOp
    by_cases h0 : 0 ≤ dv
    ·have q1 : decide ((0 : Int) ≤ dv) = true := decide_eq_true h0
     have q2 : decide (dv ≤ (63 : Int)) = false := decide_eq_false (by omega)
     clear hin h0
     go_wp2_with (first
      | (go_at_call 10; (with_reducible refine (HSy.out _).mono ?_); rintro x y1 ⟨rfl, hc1⟩)
      | (go_at_call 11; (with_reducible refine (HCk.out _).mono ?_); rintro x y2 ⟨rfl, hc2⟩)
      | (go_at_call 12; (with_reducible refine (HMp.out _).mono ?_); rintro x y3 ⟨rfl, hc3⟩)
      | (go_at_call 13; (with_reducible refine (HDu.out _).mono ?_); rintro x y4 ⟨rfl, hc4⟩)
      | (go_at_call 14; (with_reducible refine (HPe.out _).mono ?_); rintro x y5 ⟨rfl, hc5⟩)
      | (go_at_call 15; (with_reducible refine (HAc.out _).mono ?_); rintro x y6 ⟨rfl, hc6⟩)
      | (go_at_call 16; (with_reducible refine (HLa.out _).mono ?_); rintro x y7 ⟨rfl, hc7⟩)
      | (go_at_call 5; (with_reducible refine (HA.out _).mono ?_); rintro x y8 ⟨rfl, hc8⟩))
     go_ret
     exact ⟨rfl, hbt6.out.trans ((below2 hc1 (below2 hc2 (below2 hc3 (below2 hc4 (below2 hc5 (below2 hc6 (below2 hc7 hc8))))))).mono hbt6.out.size)⟩
    ·have q1 : decide ((0 : Int) ≤ dv) = false := decide_eq_false h0
     clear hin h0
     go_wp2_with (first
      | (go_at_call 10; (with_reducible refine (HSy.out _).mono ?_); rintro x y1 ⟨rfl, hc1⟩)
      | (go_at_call 11; (with_reducible refine (HCk.out _).mono ?_); rintro x y2 ⟨rfl, hc2⟩)
      | (go_at_call 12; (with_reducible refine (HMp.out _).mono ?_); rintro x y3 ⟨rfl, hc3⟩)
      | (go_at_call 13; (with_reducible refine (HDu.out _).mono ?_); rintro x y4 ⟨rfl, hc4⟩)
      | (go_at_call 14; (with_reducible refine (HPe.out _).mono ?_); rintro x y5 ⟨rfl, hc5⟩)
      | (go_at_call 15; (with_reducible refine (HAc.out _).mono ?_); rintro x y6 ⟨rfl, hc6⟩)
      | (go_at_call 16; (with_reducible refine (HLa.out _).mono ?_); rintro x y7 ⟨rfl, hc7⟩)
      | (go_at_call 5; (with_reducible refine (HA.out _).mono ?_); rintro x y8 ⟨rfl, hc8⟩))
     go_ret
     exact ⟨rfl, hbt6.out.trans ((below2 hc1 (below2 hc2 (below2 hc3 (below2 hc4 (below2 hc5 (below2 hc6 (below2 hc7 hc8))))))).mono hbt6.out.size)⟩
end Go.Proofs.YtohcmljigcdmbaaGreat
