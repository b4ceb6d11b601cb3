/- The log's laws: the program answers at all; the law WalNils. Conditions: none. -/
import Derived.Test.YtlefejokpdjpgaaGreatDStep
import Derived.Test.YtlefejokpdjpgaaGreatLoad
set_option linter.unusedSimpArgs false
set_option linter.unusedVariables false
set_option linter.unnecessarySimpa false
set_option maxHeartbeats 16000000
set_option maxRecDepth 100000
namespace Go.Proofs.YtlefejokpdjpgaaGreat
open Go.RowKit
variable {F : Nat → Prop} {d : Nat} {S : DS} {b : Nat} {D : DataW Unit} {w w' : World}
theorem walD_inv (R : List Rec) (sb : Nat) (h : sb ≤ (linesB R).length) (hl : (linesB R).length ≤ 16777216) : DInv (walD R sb) := by
 unfold walD
 by_cases hR : R = []
 ·rw [if_pos hR]; exact DInv.new
 ·rw [if_neg hR]
  exact ⟨List.pairwise_singleton _ _, by simp, by simp, fun f hf => by
   simp only [List.mem_singleton] at hf; subst hf; exact ⟨logS_ok, hl, h⟩⟩
/-- a recovery of a disk all of whose blocks are new -/
theorem RetRecov.own {B : Nat} {X : World} {r : DS × List Rec × Nat × Int} {e : Ending} (h : RetRecov (Ex X (fun k => B ≤ k) d b D) d b r X e w') (hB : B ≤ X.heap.size) :
 ∃ (a : Option Addr) (ls : List RecIt) (cap : Nat), e = .returned (.tuple #[.slice a ls.length cap, .int .i64 (r.2.2.1 : Nat), .int .i64 r.2.2.2]) ∧ RecsIn w' a ls ∧ ls.length ≤ cap ∧ recsOf ls = r.2.1 ∧
   (∃ D', DkIn w' (fun k => B ≤ k) d r.1 b D') ∧ Fr (Ex X (fun k => B ≤ k) d b D) X w' ∧ Below B X w' := by
 obtain ⟨a, ls, cap, h1, h2, h3, h4, ⟨D', h5⟩, h6⟩ := h
 exact ⟨a, ls, cap, h1, h2, h3, h4, ⟨D', h5.mono fun k hk => by rcases hk with hk | hk; exact hk.1; exact Nat.le_trans hB hk⟩, h6, h6.below hB fun k hk => hk.1⟩
def rec2 : Rec := ⟨1, 2, ev0⟩
theorem rec2_ok : recOk rec2 = true := by decide +kernel
theorem rec2_B : recB rec2 = [1, 2] := by
 unfold recB rec2
 rw [if_pos rfl, show (1 : Int).toNat = 1 from rfl, show (2 : Int).toNat = 2 from rfl, shortB_small 1 (by omega), shortB_small 2 (by omega)]; rfl
theorem rec1_len : (recLine rec1).length = 7 := by
 obtain ⟨r, hr, h4⟩ := rec1_line
 rw [hr]; simp [h4]
theorem rec2_len : (recLine rec2).length = 7 := by
 unfold recLine frameB
 rw [rec2_B, show ([1, 2] : Bytes).length = 2 from rfl, shortB_small 2 (by omega)]
 rfl
theorem linesB_one (x : Rec) : linesB [x] = recLine x := by simp [linesB]
theorem linesB_two (x y : Rec) : linesB [x, y] = recLine x ++ recLine y := by simp [linesB]
/-- the example's disks -/
def W0 : DS := ⟨[], 0, false⟩
def W1 : DS := walD [rec1] 0
def W2 : DS := walD [rec1] 7
def W3 : DS := walD [rec1, rec2] 7
theorem len1 : (linesB [rec1]).length = 7 := by rw [linesB_one, rec1_len]
theorem len2 : (linesB [rec1, rec2]).length = 14 := by rw [linesB_two, List.length_append, rec1_len, rec2_len]
theorem w1_eq : W0.append logS (recLine rec1) = (W1, 0) := walD_app [] 0 rec1 (fun _ => rfl) (by rw [rec1_len]; simp [linesB])
theorem w2_eq : ∃ c, W1.sync logS = (W2, c) ∧ walBut c = 0 := by
 have := walD_sync [rec1] 0
 rw [if_neg (by simp), len1] at this
 exact this
theorem w3_eq : W2.append logS (recLine rec2) = (W3, 0) := walD_app [rec1] 7 rec2 (fun h => by simp at h) (by rw [len1, rec2_len]; decide)
theorem w4_size : walSz W3 = 14 := by
 unfold walSz
 rw [if_neg (by decide)]
 show (walB (walD [rec1, rec2] 7)).length = 14
 have : walB (walD [rec1, rec2] 7) = linesB [rec1, rec2] := by unfold walD; rw [if_neg (by simp)]; simp [walB, getF]
 rw [this, len2]
theorem w5_eq : ∃ T, (W3.crash [(logS, 3)]).recov = (T, [rec1], 3, 0) := by
 have hok : RecsOk [rec1, rec2] := recsOk_of (fun x hx => by
  rcases List.mem_cons.1 hx with rfl | hx
  ·exact rec1_ok
  ·obtain rfl : x = rec2 := by simpa using hx
   exact rec2_ok)
 obtain ⟨k, T, n, h1, h2, h3, -, h5⟩ := walD_crash [rec1, rec2] hok 1 7 (by simp) (by simp [len1]) 3
 obtain ⟨h6, h7, h8⟩ := h5 (by simp)
 have hc : 7 + clampK 3 ((linesB [rec1, rec2]).length - 7) = 10 := by rw [len2]; rfl
 rw [hc] at h6 h7 h8
 simp only [List.length_cons, List.length_nil, Nat.zero_add, Nat.reduceAdd] at h1 h7
 obtain rfl : k = 1 := by
  rcases Nat.lt_or_ge k 2 with h | h
  ·omega
  ·obtain rfl : k = 2 := by omega
   have : ([rec1, rec2] : List Rec).take 2 = [rec1, rec2] := rfl
   rw [this, len2] at h6
   omega
 have e1 : ([rec1, rec2] : List Rec).take 1 = [rec1] := rfl
 rw [e1, len1] at h8
 rw [e1] at h3
 subst h8
 exact ⟨T, h3⟩
theorem iv1 : DInv W1 := walD_inv _ _ (Nat.zero_le _) (by rw [len1]; decide)
theorem iv2 : DInv W2 := walD_inv _ _ (by rw [len1]; exact Nat.le_refl _) (by rw [len1]; decide)
theorem iv3 : DInv W3 := walD_inv _ _ (by rw [len2]; decide) (by rw [len2]; decide)
theorem kcs_lit3 (w : World) (t : TypeId) : CellsIn (w.alloc (.cells #[.string ⟨#[108, 111, 103]⟩, .int .i64 3] t)) (some ⟨w.heap.size, 0, none⟩) (kcs [(⟨#[108, 111, 103]⟩, 3)]) := by
 refine Or.inr ⟨_, _, rfl, fun j v hv => ?_⟩
 rw [Nat.zero_add, World.cell?_alloc_new]
 simpa [kcs] using hv
theorem awake32_any (w : World) : Calls Tryz.prog 6 #[] w fun e w' => e = .returned (.bool true) ∧ Below w.heap.size w w' := by
 have HNW : Hid (Calls Tryz.prog 7 #[] w fun e w' => e = .returned (.pointer (some ⟨w.heap.size + 1, 0, none⟩)) ∧ DkIn w' (fun k => w.heap.size ≤ k) (w.heap.size + 1) W0 w.heap.size (.map []) ∧ Below w.heap.size w w') := Lib.hid (New_any w)
 obtain ⟨c2, hc2, hb2⟩ := w2_eq
 obtain ⟨T, hT⟩ := w5_eq
 have HA1 : Hid (∀ X D, DkIn X (fun k => w.heap.size ≤ k) (w.heap.size + 1) W0 w.heap.size D → Calls Tryz.prog 9 #[.pointer (some ⟨w.heap.size + 1, 0, none⟩), .agg #[.int .i64 1, .int .i64 1, .int .i64 0, .int .i64 0, .int .i64 0, .int .i64 0, .int .i64 0, .int .i64 0, .int .i64 0, .string ⟨#[]⟩, .string ⟨#[]⟩, .string ⟨#[]⟩, .string ⟨#[]⟩, .bool false, .bool false, .bool false, .bool false, .int .i64 0, .int .i64 0, .int .i64 0, .slice none 0 0]] X (RetDk (fun k => w.heap.size ≤ k) (w.heap.size + 1) w.heap.size W1 0 X)) := Lib.hid fun X D h => by
  have := walAppend_any (x := rec1) none 0 h DInv.new (Or.inl rfl) (fun A off h => by cases h) rec1_ok
  rw [w1_eq] at this
  exact this
 have HA3 : Hid (∀ X D, DkIn X (fun k => w.heap.size ≤ k) (w.heap.size + 1) W2 w.heap.size D → Calls Tryz.prog 9 #[.pointer (some ⟨w.heap.size + 1, 0, none⟩), .agg #[.int .i64 1, .int .i64 2, .int .i64 0, .int .i64 0, .int .i64 0, .int .i64 0, .int .i64 0, .int .i64 0, .int .i64 0, .string ⟨#[]⟩, .string ⟨#[]⟩, .string ⟨#[]⟩, .string ⟨#[]⟩, .bool false, .bool false, .bool false, .bool false, .int .i64 0, .int .i64 0, .int .i64 0, .slice none 0 0]] X (RetDk (fun k => w.heap.size ≤ k) (w.heap.size + 1) w.heap.size W3 0 X)) := Lib.hid fun X D h => by
  have := walAppend_any (x := rec2) none 0 h iv2 (Or.inl rfl) (fun A off h => by cases h) rec2_ok
  rw [w3_eq] at this
  exact this
 have HS2 : Hid (∀ X D, DkIn X (fun k => w.heap.size ≤ k) (w.heap.size + 1) W1 w.heap.size D → Calls Tryz.prog 11 #[.pointer (some ⟨w.heap.size + 1, 0, none⟩)] X (RetDk (fun k => w.heap.size ≤ k) (w.heap.size + 1) w.heap.size W2 0 X)) := Lib.hid fun X D h => by
  have := walSync_any h iv1
  rw [hc2] at this
  simp only [hb2] at this
  exact this
 have HZ4 : Hid (∀ X D, DkIn X (fun k => w.heap.size ≤ k) (w.heap.size + 1) W3 w.heap.size D → Calls Tryz.prog 17 #[.pointer (some ⟨w.heap.size + 1, 0, none⟩)] X fun e w' => e = .returned (.int .i64 14) ∧ Below X.heap.size X w') := Lib.hid fun X D h => by
  have := walSize_any h iv3
  rw [w4_size] at this
  exact this
 have HC5 : Hid (∀ X D a c, DkIn X (fun k => w.heap.size ≤ k) (w.heap.size + 1) W3 w.heap.size D → CellsIn X a (kcs [(logS, 3)]) → Calls Tryz.prog 12 #[.pointer (some ⟨w.heap.size + 1, 0, none⟩), .slice a 1 c] X fun e w' => e = .returned (.tuple #[]) ∧ DkIn w' (fun k => w.heap.size ≤ k) (w.heap.size + 1) (W3.crash [(logS, 3)]) w.heap.size D ∧ Fr (fun k => w.heap.size ≤ k) X w') := Lib.hid fun X D a c h hk => Crash_any (ck := c) [(logS, 3)] h iv3 (by simp) (by intro p hp; simp only [List.mem_singleton] at hp; subst hp; exact ⟨logS_size, by decide⟩) hk
 have HR6 : Hid (∀ X D, w.heap.size ≤ X.heap.size → DkIn X (fun k => w.heap.size ≤ k) (w.heap.size + 1) (W3.crash [(logS, 3)]) w.heap.size D → Calls Tryz.prog 13 #[.pointer (some ⟨w.heap.size + 1, 0, none⟩)] X fun e w' => ∃ a c, e = .returned (.tuple #[.slice a 1 c, .int .i64 3, .int .i64 0]) ∧ Below w.heap.size X w') := Lib.hid fun X D hz h => by
  have := walRecover_any h.exact (iv3.crash _) (fun k hk => hk.2.1)
  rw [hT] at this
  refine this.mono ?_
  intro e w' hr
  obtain ⟨a, ls, cap, rfl, -, -, hls, -, -, hb⟩ := hr.own hz
  have hl : ls.length = 1 := by have := congrArg List.length hls; rwa [recsOf_length] at this
  rw [hl]
  exact ⟨a, cap, rfl, hb⟩
 clear hc2 hb2 hT
 go_enter Tryz.func6, Tryz.ntmps6
 go_upto_region 2 with (go_at_call 7; (with_reducible refine HNW.out.mono ?_); rintro e w1 ⟨rfl, hN, hb1⟩)
 have hz1 := hb1.size
 go_upto_region 3 with (first | (refine Great.wpList_buildTo rfl 44 _ rfl _ rfl #[.int .i64 1, .int .i64 1, .int .i64 0, .int .i64 0, .int .i64 0, .int .i64 0, .int .i64 0, .int .i64 0, .int .i64 0, .string ⟨#[]⟩, .string ⟨#[]⟩, .string ⟨#[]⟩, .string ⟨#[]⟩, .bool false, .bool false, .bool false, .bool false, .int .i64 0, .int .i64 0, .int .i64 0, .slice none 0 0] (by kernel_rfl) ?_) | (go_at_call 9; (with_reducible refine (HA1.out _ _ hN).mono ?_); intro e w2 hr; obtain ⟨rfl, ⟨D2, hD2⟩, hb2⟩ := hr.own hz1; replace hb2 := hb1.trans hb2))
 have hz2 := hb2.size
 go_upto_region 4 with (go_at_call 11; (with_reducible refine (HS2.out _ _ hD2).mono ?_); intro e w3 hr; obtain ⟨rfl, ⟨D3, hD3⟩, hb3⟩ := hr.own hz2; replace hb3 := hb2.trans hb3)
 have hz3 := hb3.size
 go_upto_region 5 with (first | (refine Great.wpList_buildTo rfl 44 _ rfl _ rfl #[.int .i64 1, .int .i64 2, .int .i64 0, .int .i64 0, .int .i64 0, .int .i64 0, .int .i64 0, .int .i64 0, .int .i64 0, .string ⟨#[]⟩, .string ⟨#[]⟩, .string ⟨#[]⟩, .string ⟨#[]⟩, .bool false, .bool false, .bool false, .bool false, .int .i64 0, .int .i64 0, .int .i64 0, .slice none 0 0] (by kernel_rfl) ?_) | (go_at_call 9; (with_reducible refine (HA3.out _ _ hD3).mono ?_); intro e w4 hr; obtain ⟨rfl, ⟨D4, hD4⟩, hb4⟩ := hr.own hz3; replace hb4 := hb3.trans hb4))
 have hz4 := hb4.size
 go_upto_region 6 with (go_at_call 17; (with_reducible refine (HZ4.out _ _ hD4).mono ?_); rintro e w5 ⟨rfl, hb5⟩; have hD5 := hD4.below hb5; replace hb5 := hb4.trans (hb5.mono hz4))
 have hz5 := hb5.size
 go_upto_region 7 with (go_at_call 12; (with_reducible refine (HC5.out _ _ _ _ (hD5.below ((Below.refl _ _).alloc (Nat.le_refl _) _)) ?_).mono ?_); exact kcs_lit3 _ _; rintro e w6 ⟨rfl, hD6, hf6⟩)
 have hb6 : Below w.heap.size w w6 := (hb5.alloc hz5 _).trans (hf6.below (by simp; omega) fun k hk => hk)
 have hz6 := hb6.size
 go_wp2_with (go_at_call 13; (with_reducible refine (HR6.out _ _ hz6 hD6).mono ?_); rintro e w7 ⟨a7, c7, rfl, hb7⟩)
 go_ret
 exact ⟨rfl, hb6.trans hb7⟩
theorem lawWNils_any (x : Rec) (ax : Option Addr) (cx : Nat) (w : World) (hx : EvIn w ax cx x.e) :
 Calls Tryz.prog 4 #[recVal x ax cx] w fun e w' => e = .returned (.bool true) ∧ Below w.heap.size w w' := by
 have HA := Lib.hid awake32_any
 have HL0 := fun (W : World) => Light_any x.e ax cx W hx.over hx.name hx.domain hx.path hx.value
 cases hl : light x.e with
 | false =>
   rw [hl] at HL0
   have HL := Lib.hid HL0
   clear HL0 hl
   go_enter Tryz.func4, Tryz.ntmps4
   go_upto_region 1 with fail
   refine wp_name (fun W hW => ?_)
   have hbt : Below w.heap.size w W := by rw [hW.out]; exact (Below.refl _ _).alloc (Nat.le_refl _) _
   have hC : W.rangeAt w.heap.size 0 (recCells x ax cx) := by rw [hW.out]; exact recCells_box x ax cx w _
   have hE := range_ev hC
   have ho := hx.dots.kept hbt
   clear hW
   go_wp2_with (first
    | ((with_reducible refine wpList_load_evo _ w.heap.size 2 x.e ax cx hE ?_ rfl ?_); exact rfl)
        | (go_at_call 8; (with_reducible refine (HL.out _).mono ?_); rintro v w1 ⟨rfl, hb⟩; replace hbt := below2 hbt hb; replace hE := rangeAt_kept hE hb; replace hC := rangeAt_kept hC hb; replace ho := ho.kept hb)
    | (go_at_call 6; (with_reducible refine (HA.out _).mono ?_); rintro v w7 ⟨rfl, hb7⟩; replace hbt := below2 hbt hb7))
   go_ret
   exact ⟨rfl, hbt⟩
 | true =>
   have hs := light_small hl
   rw [hl] at HL0
   have HL := Lib.hid HL0
   have HRR := Lib.hid (fun (W : World) (h : DotsIn W ax x.e.over) => rRecRight_any x ax cx W hs h)
   have HRec := Lib.hid walRecover_nil
   have HSy := Lib.hid walSync_nil
   have HCl := Lib.hid walClear_nil
   have HSz := Lib.hid walSize_nil
   have hold := fun (W : World) (hb : Below w.heap.size w W) (A off : Nat) (h1 : ax = some ⟨A, off, none⟩) (h2 : x.e.over ≠ []) => Nat.lt_of_lt_of_le (hx.old A off h1 h2) hb.size
   have HO := Lib.hid hold
   cases hok : recOk x with
   | true =>
     have HW : Hid (∀ (W : World), DotsIn W ax x.e.over → (∀ A off, ax = some ⟨A, off, none⟩ → x.e.over ≠ [] → A < W.heap.size) → Calls Tryz.prog 9 #[.pointer none, recVal x ax cx] W fun e w' => e = .returned (.int .i64 17) ∧ Below W.heap.size W w') := Lib.hid fun W h1 h2 => walAppend_nil x ax cx W h1 h2 hok
     rw [hok] at HRR
     clear HL0 hl hold hs hok
     go_enter Tryz.func4, Tryz.ntmps4
     go_upto_region 1 with fail
     refine wp_name (fun W hW => ?_)
     have hbt : Below w.heap.size w W := by rw [hW.out]; exact (Below.refl _ _).alloc (Nat.le_refl _) _
     have hC : W.rangeAt w.heap.size 0 (recCells x ax cx) := by rw [hW.out]; exact recCells_box x ax cx w _
     have hE := range_ev hC
     have ho := hx.dots.kept hbt
     clear hW
     go_wp2_with (first
        | ((with_reducible refine wpList_load_evo _ w.heap.size 2 x.e ax cx hE ?_ rfl ?_); exact rfl)
            | (go_at_call 8; (with_reducible refine (HL.out _).mono ?_); rintro v w1 ⟨rfl, hb⟩; replace hbt := below2 hbt hb; replace hE := rangeAt_kept hE hb; replace hC := rangeAt_kept hC hb; replace ho := ho.kept hb)
        | ((with_reducible refine wpList_load_to 41 _ w.heap.size 0 (recCells x ax cx) (recVal x ax cx) rfl _ Tryz.underlying41 rfl (by kernel_rfl) hC ?_ rfl ?_); exact rfl)
        | (go_at_call 9; (with_reducible refine (HW.out _ ho (HO.out _ hbt)).mono ?_); rintro v w2 ⟨rfl, hb⟩; replace hbt := below2 hbt hb; replace hC := rangeAt_kept hC hb; replace ho := ho.kept hb)
        | (go_at_call 13; (with_reducible refine (HRec.out _).mono ?_); rintro v w3 ⟨rfl, rfl⟩)
        | (go_at_call 10; (with_reducible refine (HRR.out _ ho).mono ?_); rintro v w4 ⟨rfl, hb⟩; replace hbt := below2 hbt hb)
        | (go_at_call 11; (with_reducible refine (HSy.out _).mono ?_); rintro v w3 ⟨rfl, rfl⟩)
        | (go_at_call 16; (with_reducible refine (HCl.out _).mono ?_); rintro v w3 ⟨rfl, rfl⟩)
        | (go_at_call 17; (with_reducible refine (HSz.out _).mono ?_); rintro v w3 ⟨rfl, rfl⟩)
        | (go_at_call 6; (with_reducible refine (HA.out _).mono ?_); rintro v w7 ⟨rfl, hb7⟩; replace hbt := below2 hbt hb7))
     go_ret
     exact ⟨rfl, hbt⟩
   | false =>
     have HW : Hid (∀ (W : World), DotsIn W ax x.e.over → Calls Tryz.prog 9 #[.pointer none, recVal x ax cx] W fun e w' => e = .returned (.int .i64 1) ∧ Below W.heap.size W w') := Lib.hid fun W h1 => walAppend_no x none ax cx W hs h1 hok
     rw [hok] at HRR
     clear HL0 hl hold hs hok
     go_enter Tryz.func4, Tryz.ntmps4
     go_upto_region 1 with fail
     refine wp_name (fun W hW => ?_)
     have hbt : Below w.heap.size w W := by rw [hW.out]; exact (Below.refl _ _).alloc (Nat.le_refl _) _
     have hC : W.rangeAt w.heap.size 0 (recCells x ax cx) := by rw [hW.out]; exact recCells_box x ax cx w _
     have hE := range_ev hC
     have ho := hx.dots.kept hbt
     clear hW
     go_wp2_with (first
        | ((with_reducible refine wpList_load_evo _ w.heap.size 2 x.e ax cx hE ?_ rfl ?_); exact rfl)
            | (go_at_call 8; (with_reducible refine (HL.out _).mono ?_); rintro v w1 ⟨rfl, hb⟩; replace hbt := below2 hbt hb; replace hE := rangeAt_kept hE hb; replace hC := rangeAt_kept hC hb; replace ho := ho.kept hb)
        | ((with_reducible refine wpList_load_to 41 _ w.heap.size 0 (recCells x ax cx) (recVal x ax cx) rfl _ Tryz.underlying41 rfl (by kernel_rfl) hC ?_ rfl ?_); exact rfl)
        | (go_at_call 9; (with_reducible refine (HW.out _ ho).mono ?_); rintro v w2 ⟨rfl, hb⟩; replace hbt := below2 hbt hb; replace hC := rangeAt_kept hC hb; replace ho := ho.kept hb)
        | (go_at_call 13; (with_reducible refine (HRec.out _).mono ?_); rintro v w3 ⟨rfl, rfl⟩)
        | (go_at_call 10; (with_reducible refine (HRR.out _ ho).mono ?_); rintro v w4 ⟨rfl, hb⟩; replace hbt := below2 hbt hb)
        | (go_at_call 11; (with_reducible refine (HSy.out _).mono ?_); rintro v w3 ⟨rfl, rfl⟩)
        | (go_at_call 16; (with_reducible refine (HCl.out _).mono ?_); rintro v w3 ⟨rfl, rfl⟩)
        | (go_at_call 17; (with_reducible refine (HSz.out _).mono ?_); rintro v w3 ⟨rfl, rfl⟩)
        | (go_at_call 6; (with_reducible refine (HA.out _).mono ?_); rintro v w7 ⟨rfl, hb7⟩; replace hbt := below2 hbt hb7))
     go_ret
     exact ⟨rfl, hbt⟩
end Go.Proofs.YtlefejokpdjpgaaGreat
