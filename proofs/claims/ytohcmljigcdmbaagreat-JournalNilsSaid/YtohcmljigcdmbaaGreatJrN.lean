/- journal.Open where the log holds lives alone. Conditions: as in the text. -/
import Derived.Test.YtohcmljigcdmbaaGreatJrB
import Derived.Test.YtohcmljigcdmbaaGreatOrmH
import Derived.Test.YtohcmljigcdmbaaGreatVecD
set_option linter.unusedSimpArgs false
set_option linter.unusedVariables false
set_option linter.unnecessarySimpa false
set_option maxHeartbeats 16000000
set_option maxRecDepth 100000
namespace Go.Proofs.YtohcmljigcdmbaaGreat
open Go.RowKit
theorem jOpen_lives {F : Nat → Prop} {d b n sb : Nat} {D : DataW Unit} (dv : Int) (h0 : 0 ≤ dv) (h1 : dv ≤ 63) (w : World) (hD0 : DkIn w F d (walD (lives n) sb) b D) (hF0 : ∀ k, F k → k < w.heap.size) (hn : n ≤ 8) (hs : sb ≤ (linesB (lives n)).length) (hs0 : n = 0 → sb = 0) :
 Calls Tryz.prog 8 #[.pointer (some ⟨d, 0, none⟩), .int .i64 dv] w fun x w' => ∃ j m mb, x = .returned (.tuple #[.pointer (some ⟨j, 0, none⟩), .int .i64 0]) ∧ JrE j d dv (n + 1 : Nat) m mb w' ∧ (∃ D', DkIn w' (grow F w) d (walD (lives (n + 1)) (linesB (lives (n + 1))).length) b D') ∧ Fr F w w' ∧ w.heap.size ≤ j := by
 have d1 : decide (dv < (0 : Int)) = false := decide_eq_false (by omega)
 have d2 : decide ((64 : Int) ≤ dv) = false := decide_eq_false (by omega)
 have hoks := lives_oks (n := n) (by omega)
 have hll := linesB_len (lives n) hoks
 rw [lives_len] at hll
 have hi := walD_invJ (lives n) sb hs (by omega)
 have hrc := walD_recov (lives n) sb (lives_ok (by omega))
 have hx := recLine_len (lifeR_ok (n := (n + 1 : Nat)) (by omega) (by omega))
 have hap : (walD (lives n) sb).append logS (recLine (lifeR (n + 1 : Nat))) = (walD (lives (n + 1)) sb, 0) := walD_app (lives n) sb (lifeR (n + 1 : Nat)) (fun e => hs0 (by have := congrArg List.length e; rw [lives_len] at this; exact this)) (by omega)
 obtain ⟨cs, hsy, hsc⟩ := walD_sync (lives (n + 1)) sb
 rw [if_neg (by intro e; have := congrArg List.length e; rw [lives_len] at this; simp at this)] at hsy
 have hD := hD0.exact
 have hq := hD0.quietD
 have hF : ∀ k, Ex w F d b D k → k < w.heap.size := fun k hk => hk.2.1
 have hFF : ∀ k, Ex w F d b D k → F k := fun k hk => hk.1
 have hbl : b < w.heap.size := hD0.own.lt
 generalize Ex w F d b D = G at *
 have HLy := Lib.hid (lying_new dv w hD (ckpt_walD _ _))
 have HRc0 := fun (X : World) (h : DkIn X G d (walD (lives n) sb) b D) (hX : ∀ k, G k → k < X.heap.size) => walRecover_any h hi hX
 rw [hrc] at HRc0
 have HRc : Hid (∀ (X : World) (h : DkIn X G d (walD (lives n) sb) b D) (hX : ∀ k, G k → k < X.heap.size), Calls Tryz.prog 23 #[.pointer (some ⟨d, 0, none⟩)] X fun x w' => ∃ (a : Option Addr) (ls : List RecIt) (cap : Nat), x = .returned (.tuple #[.slice a ls.length cap, .int .i64 0, .int .i64 0]) ∧ RecsIn w' a ls ∧ ls.length ≤ cap ∧ recsOf ls = lives n ∧ (∃ D', DkIn w' (grow G X) d (walD (lives n) sb) b D') ∧ Fr G X w') := Lib.hid HRc0
 have HBg := Lib.hid (fun (X : World) (j m : Nat) (mb : MB) (G2 : Nat → Prop) (D2 : DataW Unit) (hJ : JrE j d dv n m mb X) (hD : DkIn X G2 d (walD (lives n) sb) b D2) (hF : ∀ k, G2 k → k < X.heap.size) (hq : QuietD G2 X b) (hfo : ∀ k, foot mb [] k → k ≠ b) => jBegin_any X hJ hD hi hF hq hfo (by omega) hap (by rw [hsy]; exact hsc))
 simp only [hsy] at HBg
 have HN := Lib.hid hn
 clear HRc0 hrc hx hap hsy hsc hi hoks hll hs hs0 hD0 hF0 h0 h1 hn
 go_enter Tryz.func8, Tryz.ntmps8
 go_upto_region 6 with (first
  | (go_at_call 22; (with_reducible refine HLy.out.mono ?_); rintro x w1 ⟨m, mb, rfl, hm, hfo, hb1⟩)
  | (refine wpList_store_new 58 _ _ _ (snA dv 0 ⟨0, 0, 0⟩ (.pointer (some ⟨m, 0, none⟩))) rfl rfl (by kernel_rfl) rfl (by kernel_rfl) ?_))
 refine wp_name (fun V1 hV => ?_)
 have hbv : Below w1.heap.size w1 V1 := by rw [hV.out]; exact (Below.refl _ _).alloc (Nat.le_refl _) _
 have hS1 : V1.heap[w1.heap.size]? = some (.cells (snA dv 0 ⟨0, 0, 0⟩ (.pointer (some ⟨m, 0, none⟩))) 58 (0, 0)) := by rw [hV.out]; exact heap_alloc_last w1 _
 have hbt := below2 hb1 hbv
 have hmV := hm.kept_w hbv
 have hDV := hD.below hbt
 have hqV := hq.below hF hbt
 have hFV : ∀ k, G k → k < V1.heap.size := fun k hk => Nat.lt_of_lt_of_le (hF k hk) hbt.size
 have hfb : ∀ k, foot mb [] k → k ≠ b := fun k hk => by have := hfo k hk; omega
 have hzs := hbt.size
 clear hV hm hb1 hbv hD hq hfo HLy d1 d2
 generalize w1.heap.size = X1 at *
 go_upto_region 9 with (go_at_call 23; (with_reducible refine (HRc.out _ hDV hFV).mono ?_); rintro x w2 ⟨a, ls, cap, rfl, hR2, -, hL2, ⟨D2, hD2⟩, hf2⟩)
 have hS2 := (hf2.block _ (lt_of_block hS1) (hqV.typed _ _ _ hS1 (by decide))).trans hS1
 have hm2 := hmV.frE hf2 hqV hfb
 have hr2 : w2.rangeAt X1 0 (snCs dv 0 ⟨0, 0, 0⟩ (.pointer (some ⟨m, 0, none⟩))) := fun i v hv => by
  rw [Nat.zero_add]
  simp only [World.cell?, hS2]
  simpa using hv
 have hft2 : Fr F w w2 := (Fr.of_below hbt).again (hf2.mono fun k _ hk => hFF k hk)
 have hG2 : ∀ k, grow G V1 k → grow F w k := fun k hk => by
  rcases hk with hk | hk
  ·exact Or.inl (hFF k hk)
  ·exact Or.inr (Nat.le_trans hzs hk)
 have hzf := hft2.size
 have HL2 := Lib.hid hL2
 clear hS1 hmV hDV hqV hFV HRc hf2 hS2 hbt hL2 hF hFF
 go_upto_region 12 with (first
  | ((with_reducible refine wpList_load_to 58 _ X1 0 (snCs dv 0 ⟨0, 0, 0⟩ (.pointer (some ⟨m, 0, none⟩))) (snV dv 0 ⟨0, 0, 0⟩ (.pointer (some ⟨m, 0, none⟩))) rfl _ Tryz.underlying58 rfl (by kernel_rfl) hr2 ?_ rfl ?_); exact rfl)
  | (refine Great.wpList_buildTo rfl 60 _ rfl _ rfl (jrA d dv 0 ⟨0, 0, 0⟩ m (.slice none 0 0)) (by kernel_rfl) ?_))
 refine wp_name (fun V3 hV => ?_)
 have hb3 : Below w2.heap.size w2 V3 := by rw [hV.out]; exact (Below.refl _ _).alloc (Nat.le_refl _) _
 have hJ3 : JrAt V3 w2.heap.size d dv 0 ⟨0, 0, 0⟩ m (.slice none 0 0) := by rw [hV.out]; exact heap_alloc_last w2 _
 have hm3 := hm2.kept_w hb3
 have hD3 := hD2.below hb3
 have hR3 := hR2.kept hb3
 have HRp := Lib.hid (replay_lives a cap n ls V3 hJ3 hR3 HL2.out (by have := HN.out; omega))
 have HQ := Lib.hid (And.intro hJ3 (And.intro hm3 hD3))
 have hft3 : Fr F w V3 := hft2.again (Fr.of_below hb3)
 clear hV hb3 hJ3 hm3 hD3 hR3 hm2 hD2 hR2 hr2 hft2 HL2
 have hjz : w.heap.size ≤ w2.heap.size := hzf
 generalize w2.heap.size = j at *
 go_upto_region 15 with (go_at_call 24; (with_reducible refine HRp.out.mono ?_); rintro x w4 ⟨rfl, hJ4, hf4⟩)
 obtain ⟨hJ3, hm3, hD3⟩ := HQ.out
 have hm4 := hm3.one hf4 hJ3 (by decide) (by decide)
 have hD4 := hD3.jr hJ3 hf4
 have hft4 : Fr F w w4 := hft3.trans (hf4.mono fun k _ hk => Or.inr (by rw [show k = j from hk]; exact hjz))
 have HB4 := Lib.hid (HBg.out w4 j m mb _ _ ⟨_, _, hJ4, hm4⟩ hD4.exact (fun k hk => hk.2.1) hD4.quietD hfb)
 have hz4 := hft4.size
 clear hJ3 hm3 hD3 hf4 hm4 hD4 hft3 HBg HRp HQ hJ4
 go_wp2_with (go_at_call 25; (with_reducible refine HB4.out.mono ?_); rintro x w5 ⟨rfl, hE5, ⟨D5, hD5⟩, hf5⟩)
 go_ret2
 refine ⟨j, m, mb, rfl, hE5, ⟨D5, hD5.mono fun k hk => ?_⟩, hft4.trans (hf5.mono fun k _ hk => ?_), hjz⟩
 ·rcases hk with hk | hk
  ·exact hG2 k hk.1
  ·exact Or.inr (Nat.le_trans hz4 hk)
 ·rcases hk with hk | hk
  ·exact hG2 k hk.1
  ·exact Or.inr (by rw [hk]; exact hjz)
theorem jNote_nil (e : Ev) (a : Option Addr) (cap : Nat) (w : World) : Calls Tryz.prog 6 #[.pointer none, evVal e a cap] w fun x w' => x = .returned (.tuple #[.bool false, .int .i64 17]) ∧ Below w.heap.size w w' := by
 go_enter Tryz.func6, Tryz.ntmps6
 go_wp2
 all_goals
  go_ret2
  exact ⟨rfl, by go_grown⟩
theorem jSync_nil (w : World) : Calls Tryz.prog 10 #[.pointer none] w fun x w' => x = .returned (.int .i64 17) ∧ Below w.heap.size w w' := by
 go_enter Tryz.func10, Tryz.ntmps10
 go_wp2
 all_goals
  go_ret
  exact ⟨rfl, by go_grown⟩
theorem jCkpt_nil (w : World) : Calls Tryz.prog 11 #[.pointer none] w fun x w' => x = .returned (.int .i64 17) ∧ Below w.heap.size w w' := by
 go_enter Tryz.func11, Tryz.ntmps11
 go_wp2
 all_goals
  go_ret
  exact ⟨rfl, by go_grown⟩
theorem jMap_nil (w : World) : Calls Tryz.prog 12 #[.pointer none] w fun x w' => x = .returned (.pointer none) ∧ Below w.heap.size w w' := by
 go_enter Tryz.func12, Tryz.ntmps12
 go_wp2
 all_goals
  go_ret
  exact ⟨rfl, by go_grown⟩
theorem jDurable_nil (w : World) : Calls Tryz.prog 13 #[.pointer none] w fun x w' => x = .returned (.slice none 0 0) ∧ Below w.heap.size w w' := by
 go_enter Tryz.func13, Tryz.ntmps13
 go_wp2
 all_goals
  go_ret
  exact ⟨rfl, by go_grown⟩
theorem jActor_nil (w : World) : Calls Tryz.prog 15 #[.pointer none] w fun x w' => x = .returned (.agg #[.int .i64 0, .int .i64 0]) ∧ Below w.heap.size w w' := by
 go_enter Tryz.func15, Tryz.ntmps15
 go_upto_region 1 with fail
 refine wp_name (fun W hW => ?_)
 have hbt : Below w.heap.size w W := by rw [hW.out]; go_grown
 have hZ : W.heap[w.heap.size]? = some (.cells #[.int .i64 0, .int .i64 0] 23 (0, 0)) := by rw [hW.out]; exact heap_alloc_last w _
 clear hW
 go_wp2_with (first
  | (refine Great.wpList_buildTo rfl 23 _ rfl _ rfl #[.int .i64 0, .int .i64 0] (by kernel_rfl) ?_)
  | (refine wpList_store_row rfl 23 _ _ rfl w.heap.size #[.int .i64 0, .int .i64 0] rfl rfl 23 #[.int .i64 0, .int .i64 0] hZ (by kernel_rfl) rfl (by kernel_rfl) ?_))
 refine ret_cell 2 23 23 w.heap.size #[.int .i64 0, .int .i64 0] _ rfl rfl (setRow_heap _ _ _ _ _ _ hZ) Tryz.underlying23 rfl (by kernel_rfl) rfl ?_
 exact ⟨rfl, below_setRow hbt (Nat.le_refl _) _⟩
theorem jLast_nil (w : World) : Calls Tryz.prog 16 #[.pointer none] w fun x w' => x = .returned (.agg #[.int .i64 0, .int .i64 0, .int .i64 0]) ∧ Below w.heap.size w w' := by
 go_enter Tryz.func16, Tryz.ntmps16
 go_upto_region 1 with fail
 refine wp_name (fun W hW => ?_)
 have hbt : Below w.heap.size w W := by rw [hW.out]; go_grown
 have hZ : W.heap[w.heap.size]? = some (.cells #[.int .i64 0, .int .i64 0, .int .i64 0] 27 (0, 0)) := by rw [hW.out]; exact heap_alloc_last w _
 clear hW
 go_wp2_with (first
  | (refine Great.wpList_buildTo rfl 27 _ rfl _ rfl #[.int .i64 0, .int .i64 0, .int .i64 0] (by kernel_rfl) ?_)
  | (refine wpList_store_row rfl 27 _ _ rfl w.heap.size #[.int .i64 0, .int .i64 0, .int .i64 0] rfl rfl 27 #[.int .i64 0, .int .i64 0, .int .i64 0] hZ (by kernel_rfl) rfl (by kernel_rfl) ?_))
 refine ret_cell 2 27 27 w.heap.size #[.int .i64 0, .int .i64 0, .int .i64 0] _ rfl rfl (setRow_heap _ _ _ _ _ _ hZ) Tryz.underlying27 rfl (by kernel_rfl) rfl ?_
 exact ⟨rfl, below_setRow hbt (Nat.le_refl _) _⟩
theorem cmayNil (a : Option Addr) (n cap : Nat) (w : World) : Calls Tryz.prog 44 #[.pointer none, .slice a n cap] w fun x w' => x = .returned (.tuple #[.pointer none, .int .i64 17]) ∧ Below w.heap.size w w' := by
 go_enter Tryz.func44, Tryz.ntmps44
 go_wp2
 all_goals
  go_ret2
  exact ⟨rfl, by go_grown⟩
theorem jOpen_nil (dv : Int) (w : World) : Calls Tryz.prog 8 #[.pointer none, .int .i64 dv] w fun x w' => x = .returned (.tuple #[.pointer none, .int .i64 17]) ∧ Below w.heap.size w w' := by
 go_enter Tryz.func8, Tryz.ntmps8
 go_wp2
 all_goals
  go_ret2
  exact ⟨rfl, by go_grown⟩
theorem cdoNil (a : Option Addr) (n cap : Nat) (w : World) : Calls Tryz.prog 21 #[.pointer none, .slice a n cap] w fun x w' => x = .returned (.tuple #[.int .i64 0, .int .i64 17]) ∧ Below w.heap.size w w' := by
 have hO := Lib.hid (cmayNil a n cap w)
 go_enter Tryz.func21, Tryz.ntmps21
 go_wp2
 go_step3
 go_wp2_with (go_at_call 44; (with_reducible refine hO.out.mono ?_); rintro x w1 ⟨rfl, hb1⟩)
 all_goals
  try rw [Exit.noGoto_ret]
  go_ret2
  exact ⟨rfl, hb1⟩
theorem jCompact_nil (w : World) : Calls Tryz.prog 7 #[.pointer none, .slice none 0 0] w fun x w' => x = .returned (.tuple #[.int .i64 0, .int .i64 17]) ∧ Below w.heap.size w w' := by
 have HM := Lib.hid jMap_nil
 have HD := Lib.hid (cdoNil none 0 0)
 go_enter Tryz.func7, Tryz.ntmps7
 go_wp2_with (first
  | (go_at_call 12; (with_reducible refine (HM.out _).mono ?_); rintro x w1 ⟨rfl, hb1⟩)
  | (go_at_call 21; (with_reducible refine (HD.out _).mono ?_); rintro x w2 ⟨rfl, hb2⟩))
 go_ret2
 exact ⟨rfl, below2 hb1 hb2⟩
theorem jOpen_peer (d : Nat) (dv : Int) (w : World) (h : ¬ (0 ≤ dv ∧ dv ≤ 63)) : Calls Tryz.prog 8 #[.pointer (some ⟨d, 0, none⟩), .int .i64 dv] w fun x w' => x = .returned (.tuple #[.pointer none, .int .i64 16]) ∧ Below w.heap.size w w' := by
 by_cases h0 : dv < 0
 ·have d1 : decide (dv < (0 : Int)) = true := decide_eq_true h0
  go_enter Tryz.func8, Tryz.ntmps8
  go_wp2
  go_ret2
  exact ⟨rfl, by go_grown⟩
 ·have d1 : decide (dv < (0 : Int)) = false := decide_eq_false h0
  have d2 : decide ((64 : Int) ≤ dv) = true := decide_eq_true (by omega)
  go_enter Tryz.func8, Tryz.ntmps8
  go_wp2
  go_ret2
  exact ⟨rfl, by go_grown⟩
theorem vSum0_any {v b : Nat} (w : World) (h : VecIn w v b []) : Calls Tryz.prog 31 #[.pointer (some ⟨v, 0, none⟩)] w fun x w' => x = .returned (.int .i64 0) ∧ Below w.heap.size w w' := by
 have HA0 := vActors_any w h List.Pairwise.nil (by decide)
 have HA : Hid (Calls Tryz.prog 69 #[.pointer (some ⟨v, 0, none⟩)] w fun e w' => e = .returned (.slice none 0 0) ∧ Below w.heap.size w w') := Lib.hid (HA0.mono fun e w' ⟨x, h1, _, h2, h3⟩ => ⟨by rw [h1, h2.2 rfl], h3⟩)
 clear HA0 h
 go_enter Tryz.func31, Tryz.ntmps31
 go_wp2_with (go_at_call 69; (with_reducible refine HA.out.mono ?_); rintro x w1 ⟨rfl, hb1⟩)
 go_loopw [3, 9] (fun n i wr => n = .int .i64 0 ∧ i = .int .i64 0 ∧ Below w.heap.size w wr) (fun _ _ _ => 0)
 case atStart => exact ⟨rfl, rfl, hb1⟩
 case round =>
  obtain ⟨rfl, rfl, hbr⟩ := hrel
  go_wp2
  go_ret
  exact ⟨rfl, hbr⟩
end Go.Proofs.YtohcmljigcdmbaaGreat
