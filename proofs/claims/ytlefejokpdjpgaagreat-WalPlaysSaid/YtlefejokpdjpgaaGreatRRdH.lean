/- The references' reader by value: an event. Conditions: at most 2^30 bytes. -/
import Derived.Test.YtlefejokpdjpgaaGreatRest
import Derived.Test.YtlefejokpdjpgaaGreatRRdE
import Derived.Test.YtlefejokpdjpgaaGreatLoad
import Derived.Test.YtlefejokpdjpgaaGreatRec
import Derived.Test.YtlefejokpdjpgaaGreatRecP
import Derived.Test.YtlefejokpdjpgaaGreatRecQ
set_option linter.unusedSimpArgs false
set_option linter.unusedVariables false
set_option linter.unnecessarySimpa false
set_option maxHeartbeats 16000000
set_option maxRecDepth 100000
namespace Go.Proofs.YtlefejokpdjpgaaGreat
open Go.RowKit
/-- behind the read of an event -/
def jy (r : Rd) (w0 w : World) (x : Ending) (w' : World) : Prop :=
 ∃ a cap ae ce, x = .returned (.tuple #[aH (rEv r).1 a cap, evVal (rEv r).2 ae ce]) ∧ BytesIn w0 a (rEv r).1.b ∧ (rEv r).1.b.length ≤ cap ∧ DotsIn w' ae (rEv r).2.over ∧ Below w.heap.size w w' ∧ (∀ A off, ae = some ⟨A, off, none⟩ → w.heap.size ≤ A)
theorem jc {X E k : Nat} (h1 : k ≠ X) (h2 : k ≠ E) : ¬ isRE X E k := fun h => h.elim h1 h2
/-- what holds through the loop over the dots: W the world ahead of it -/
def og (w0 W wr : World) (X E : Nat) (e : Ev) (rr : Rd) (l : List Dot) : Prop :=
 ∃ ar cr ad cap, RdBlk wr X rr ar cr ∧ BytesIn w0 ar rr.b ∧ rr.b.length ≤ cr ∧ EvBlk wr E { e with over := l } ad cap ∧ wr.ownsRow W.heap.size 30 3 (.slice ad l.length cap) l.length (dotVals l) ∧ Fr (isRE X E) W wr
/-- ahead of the last test: what the reader and the event are, and where they lie -/
def xM (r : Rd) (w0 w wx : World) (X lo : Nat) : Prop :=
 ∃ rx ev ax cx ad dE, (rx.e ≠ 0 → rEv r = (rx, ev0)) ∧ (rx.e = 0 → evGo r = (rx, ev)) ∧ RdBlk wx X rx ax cx ∧ BytesIn w0 ax rx.b ∧ rx.b.length ≤ cx ∧ EvBlk wx (w.heap.size + 3) ev ad dE ∧ DotsIn wx ad ev.over ∧ (∀ A off, ad = some ⟨A, off, none⟩ → lo ≤ A) ∧ EvSmall ev ∧
   wx.heap[w.heap.size + 1]? = some (.cells au 206 (0, 0)) ∧ EvBlk wx (w.heap.size + 2) ev0 none 0 ∧ Below w.heap.size w wx
theorem tK {r : Rd} (h : r.e ≠ 0) : rItem r = r := by
 have ht : ∀ m, rText m r = (r, []) := fun m => by unfold rText; rw [if_neg h]
 have hi : ∀ m, rInt m r = (r, 0) := fun m => by unfold rInt; rw [if_neg h]
 have hn : ∀ m, rNum m r = (r, 0) := fun m => by unfold rNum; rw [if_neg h]
 unfold rItem
 simp only [ht, hi, hn]
theorem qH {r : Rd} (h : (rFlags r).2 = []) : (rFlags r).1.e ≠ 0 := by
 unfold rFlags at h ⊢
 split
 ·rename_i h0
  rw [if_pos h0] at h
  split
  ·simp
  ·rename_i h1
   rw [if_neg h1] at h
   split
   ·rename_i h2; rw [if_pos h2] at h; simp [bits5] at h
   ·simp
 ·rename_i h0; exact h0
theorem tV {m : Nat} {r : Rd} (h : r.e ≠ 0) : (rDots m r).1.e ≠ 0 := by rw [mG h]; exact h
theorem qK (r : Rd) (a : Option Addr) (cap : Nat) (w0 w : World) (h0 : Below w0.heap.size w0 w) (hl : r.b.length ≤ 1073741824) (hc : r.b.length ≤ cap) (hby : BytesIn w0 a r.b) :
 Calls Tryz.prog 143 #[aH r a cap] w (jy r w0 w) := by
 obtain ⟨ra, d, h1⟩ : ∃ a d, rDot r = (a, d) := ⟨_, _, rfl⟩
 obtain ⟨rb, s, h2⟩ : ∃ b s, rStamp ra = (b, s) := ⟨_, _, rfl⟩
 obtain ⟨rf, fl, h3⟩ : ∃ f fl, rFlags rb = (f, fl) := ⟨_, _, rfl⟩
 obtain ⟨rn, k, h4⟩ : ∃ n k, rNum 64 rf = (n, k) := ⟨_, _, rfl⟩
 obtain ⟨ro, l, h5⟩ : ∃ o l, rDots k rn = (o, l) := ⟨_, _, rfl⟩
 have HV := Lib.hid (evGo_eq r h1 h2 h3 h4 h5)
 have f1 := rDot_fit r
 have f2 := rStamp_fit ra
 have f3 := rFlags_fit rb
 have f4 := rNum_fit 64 rf
 have hfive := rFlags_five rb
 rw [h1] at f1
 rw [h2] at f2
 rw [h3] at f3 hfive
 rw [h4] at f4
 simp only at f1 f2 f3 f4 hfive
 have g1 : Hid (∀ W, Below w0.heap.size w0 W → Calls Tryz.prog 177 #[aH r a cap] W (dF ra (dotValR d) w0 W)) := fun W h => by have := jV r a cap w0 W h hl hc hby; rw [h1] at this; exact this
 have g2 : Hid (∀ (a : Option Addr) (cap : Nat) W, Below w0.heap.size w0 W → ra.b.length ≤ cap → BytesIn w0 a ra.b → Calls Tryz.prog 178 #[aH ra a cap] W (dF rb (stampVal s) w0 W)) := fun a cap W h hc hb => by have := lU ra a cap w0 W h (by omega) hc hb; rw [h2] at this; exact this
 have g3 : Hid (∀ (a : Option Addr) (cap : Nat) W, Below w0.heap.size w0 W → rb.b.length ≤ cap → BytesIn w0 a rb.b → Calls Tryz.prog 179 #[aH rb a cap, .int .i64 5] W (rG rf fl w0 W)) := fun a cap W h hc hb => by have := kY rb a cap w0 W h (by omega) hc hb; rw [h3] at this; exact this
 have g4 : Hid (∀ (a : Option Addr) (cap : Nat) W, Below w0.heap.size w0 W → rf.b.length ≤ cap → BytesIn w0 a rf.b → Calls Tryz.prog 142 #[aH rf a cap, .int .u64 64] W (dF rn (.int .u64 k) w0 W)) := fun a cap W h hc hb => by have := aW rf a cap 64 w0 W h (by omega) hc (by omega) hb; rw [h4] at this; exact this
 have H5 := Lib.hid h5
 have HFI := Lib.hid hfive
 have H34 := Lib.hid (And.intro h3 h4)
 clear h1 h2 h3 h4 h5 hfive
 go_enter Tryz.func143, Tryz.ntmps143
 go_upto_region 2 with (first
  | (refine Great.wpList_buildTo rfl 39 _ rfl _ rfl (evCells evInit none 0).toArray (by kernel_rfl) ?_)
  | (refine wpList_store_newAt 39 _ _ _ (evCells evInit none 0).toArray (w.heap.size + 3) (by simp) rfl rfl (by kernel_rfl) rfl (by kernel_rfl) ?_))
 refine wp_name (fun W hW => ?_)
 have hbt : Below w.heap.size w W := by rw [hW.out]; go_grown
 have hB : RdBlk W w.heap.size r a cap := by
  rw [hW.out]; unfold RdBlk; rw [Below.heap_alloc _ _ _ (by simp <;> omega), Below.heap_alloc _ _ _ (by simp <;> omega), Below.heap_alloc _ _ _ (by simp)]; exact heap_alloc_last w _
 have hZ : W.heap[w.heap.size + 1]? = some (.cells au 206 (0, 0)) := by
  rw [hW.out, Below.heap_alloc _ _ _ (by simp <;> omega), Below.heap_alloc _ _ _ (by simp <;> omega)]
  exact StBlk.new2 w (Obj.cells (aA r a cap) 206) au 206
 have hD : EvBlk W (w.heap.size + 2) ev0 none 0 := by
  rw [hW.out]; unfold EvBlk; rw [Below.heap_alloc _ _ _ (by simp <;> omega)]
  have := StBlk.new2 (w.alloc (Obj.cells (aA r a cap) 206)) (Obj.cells au 206) (evCells ev0 none 0).toArray 39
  rw [show (w.alloc (Obj.cells (aA r a cap) 206)).heap.size = w.heap.size + 1 by simp] at this
  exact this
 have hE : EvBlk W (w.heap.size + 3) evInit none 0 := by
  rw [hW.out]
  have := StBlk.new2 ((w.alloc (Obj.cells (aA r a cap) 206)).alloc (Obj.cells au 206)) (Obj.cells (evCells ev0 none 0).toArray 39) (evCells evInit none 0).toArray 39
  rw [show ((w.alloc (Obj.cells (aA r a cap) 206)).alloc (Obj.cells au 206)).heap.size = w.heap.size + 2 by simp] at this
  exact this
 have h0W := h0.trans (hbt.mono h0.size)
 have hrg := hB.range
 have hlw := hE.lt
 clear hW hB
 go_upto_region 3 with (first
  | ((with_reducible refine wpList_load_to 206 _ w.heap.size 0 [.slice a r.b.length cap, .int .i64 r.e] (aH r a cap) rfl _ Tryz.underlying206 rfl (by kernel_rfl) hrg ?_ rfl ?_); exact rfl)
  | (go_at_call 177; (with_reducible refine (g1.out _ h0W).mono ?_); rintro x w1 ⟨a1, c1, rfl, hin1, hc1, hb1⟩)
  | (refine bZ 206 _ _ _ #[.slice a1 ra.b.length c1, .int .i64 ra.e] _ rfl rfl (by kernel_rfl) rfl (by kernel_rfl) ?_)
  | (refine wpList_store_newAt 30 _ _ _ #[.int .i64 d.a.dev, .int .i64 d.a.inc, .int .i64 d.seq] (w1.heap.size + 1) (by simp) rfl rfl (by kernel_rfl) rfl (by kernel_rfl) ?_))
 refine wp_name (fun V1 hV => ?_)
 have hX1 : RdBlk V1 w1.heap.size ra a1 c1 := by rw [hV.out]; exact RdBlk.new2 w1 ra a1 c1 _
 have hS1 : StBlk V1 (w1.heap.size + 1) #[.int .i64 d.a.dev, .int .i64 d.a.inc, .int .i64 d.seq] 30 := by rw [hV.out]; exact StBlk.new2 w1 _ _ _
 have hbv : Below W.heap.size W V1 := by rw [hV.out]; exact (hb1.alloc hb1.size _).alloc (Nat.le_trans hb1.size (by simp)) _
 replace h0W := h0W.trans (hbv.mono h0W.size)
 have hlo1 := Nat.lt_of_lt_of_le hlw hb1.size
 replace hlw := Nat.lt_of_lt_of_le hlw hbv.size
 clear hV hb1 hrg
 have hrg := hX1.range
 replace hZ := (hbv.block _ (lt_of_block hZ)).trans hZ
 replace hD := hD.below hbv
 replace hE := hE.below hbv
 replace hbt := below2 hbt hbv
 clear hbv
 obtain ⟨W, hWe⟩ : ∃ W, W = V1 := ⟨_, rfl⟩
 subst hWe
 have g2' := Lib.hid (fun W h => g2.out a1 c1 W h hc1 hin1)
 go_upto_region 4 with (first
  | ((with_reducible refine wpList_load_to 206 _ w1.heap.size 0 [.slice a1 ra.b.length c1, .int .i64 ra.e] (aH ra a1 c1) rfl _ Tryz.underlying206 rfl (by kernel_rfl) hrg ?_ rfl ?_); exact rfl)
  | (go_at_call 178; (with_reducible refine (g2'.out _ h0W).mono ?_); rintro x w2 ⟨a2, c2, rfl, hin2, hc2, hb2⟩)
  | (refine bZ 206 _ _ _ #[.slice a2 rb.b.length c2, .int .i64 rb.e] _ rfl rfl (by kernel_rfl) rfl (by kernel_rfl) ?_)
  | (refine wpList_store_newAt 32 _ _ _ #[.int .i64 s.wall, .int .i64 s.count, .int .i64 s.dev] (w2.heap.size + 1) (by simp) rfl rfl (by kernel_rfl) rfl (by kernel_rfl) ?_))
 refine wp_name (fun V2 hV => ?_)
 have hX2 : RdBlk V2 w2.heap.size rb a2 c2 := by rw [hV.out]; exact RdBlk.new2 w2 rb a2 c2 _
 have hS2 : StBlk V2 (w2.heap.size + 1) #[.int .i64 s.wall, .int .i64 s.count, .int .i64 s.dev] 32 := by rw [hV.out]; exact StBlk.new2 w2 _ _ _
 have hbv : Below W.heap.size W V2 := by rw [hV.out]; exact (hb2.alloc hb2.size _).alloc (Nat.le_trans hb2.size (by simp)) _
 replace h0W := h0W.trans (hbv.mono h0W.size)
 have hlo2 := Nat.lt_of_lt_of_le hlw hb2.size
 replace hlw := Nat.lt_of_lt_of_le hlw hbv.size
 clear hV hb2 hrg
 have hrg := hX2.range
 replace hZ := (hbv.block _ (lt_of_block hZ)).trans hZ
 replace hD := hD.below hbv
 replace hE := hE.below hbv
 replace hS1 := hS1.below hbv
 replace hbt := below2 hbt hbv
 clear hbv
 obtain ⟨W, hWe⟩ : ∃ W, W = V2 := ⟨_, rfl⟩
 subst hWe
 have g3' := Lib.hid (fun W h => g3.out a2 c2 W h hc2 hin2)
 have hsw := h0W.size
 go_upto_region 5 with (first
  | ((with_reducible refine wpList_load_to 206 _ w2.heap.size 0 [.slice a2 rb.b.length c2, .int .i64 rb.e] (aH rb a2 c2) rfl _ Tryz.underlying206 rfl (by kernel_rfl) hrg ?_ rfl ?_); exact rfl)
  | (go_at_call 179; (with_reducible refine (g3'.out _ h0W).mono ?_); rintro x w3 ⟨a3, c3, fv, rfl, ed, hc3, hfl, hb3⟩)
  | (refine wpList_store_new 206 _ _ _ #[.slice a3 rf.b.length c3, .int .i64 rf.e] rfl rfl (by kernel_rfl) rfl (by kernel_rfl) ?_))
 refine wp_name (fun V3 hV => ?_)
 have hX3 : RdBlk V3 w3.heap.size rf a3 c3 := by rw [hV.out]; exact RdBlk.new w3 rf a3 c3
 have hFL : V3.ownsRow (w.heap.size + 4) 4 1 fv fl.length (dJ fl) := by rw [hV.out]; exact own_low (hfl.alloc _) (by omega)
 have hbv : Below W.heap.size W V3 := by rw [hV.out]; exact hb3.alloc hb3.size _
 replace h0W := h0W.trans (hbv.mono h0W.size)
 have hlo3 := Nat.lt_of_lt_of_le hlw hb3.size
 replace hlw := Nat.lt_of_lt_of_le hlw hbv.size
 have hfx : ∀ g, fv.ownBlock = some g → g < w3.heap.size := fun g hg => (hfl.lt g hg).2
 clear hV hb3 hrg hfl
 have hrg := hX3.range
 replace hZ := (hbv.block _ (lt_of_block hZ)).trans hZ
 replace hD := hD.below hbv
 replace hE := hE.below hbv
 replace hS1 := hS1.below hbv
 replace hS2 := hS2.below hbv
 replace hbt := below2 hbt hbv
 clear hbv
 obtain ⟨W, hWe⟩ : ∃ W, W = V3 := ⟨_, rfl⟩
 subst hWe
 have g4' := Lib.hid (fun W h => g4.out a3 c3 W h hc3 ed)
 have HFX := Lib.hid hfx
 clear hfx
 replace hlw := hX3.lt
 go_upto_region 6 with (first
  | ((with_reducible refine wpList_load_to 206 _ w3.heap.size 0 [.slice a3 rf.b.length c3, .int .i64 rf.e] (aH rf a3 c3) rfl _ Tryz.underlying206 rfl (by kernel_rfl) hrg ?_ rfl ?_); exact rfl)
  | (go_at_call 142; (with_reducible refine (g4'.out _ h0W).mono ?_); rintro x w4 ⟨a4, c4, rfl, dR, hc4, hb4⟩)
  | (refine wpList_store_new 206 _ _ _ #[.slice a4 rn.b.length c4, .int .i64 rn.e] rfl rfl (by kernel_rfl) rfl (by kernel_rfl) ?_))
 refine wp_name (fun V4 hV => ?_)
 have hX4 : RdBlk V4 w4.heap.size rn a4 c4 := by rw [hV.out]; exact RdBlk.new w4 rn a4 c4
 have hbv : Below W.heap.size W V4 := by rw [hV.out]; exact hb4.alloc hb4.size _
 replace h0W := h0W.trans (hbv.mono h0W.size)
 have yF := Nat.lt_of_lt_of_le hlw hb4.size
 replace hlw := Nat.lt_of_lt_of_le hlw hbv.size
 clear hV hb4 hrg
 have hrg := hX4.range
 replace hZ := (hbv.block _ (lt_of_block hZ)).trans hZ
 replace hD := hD.below hbv
 replace hE := hE.below hbv
 replace hS1 := hS1.below hbv
 replace hS2 := hS2.below hbv
 replace hFL := ownsRow_below hFL hbv
 replace hbt := below2 hbt hbv
 clear hbv
 obtain ⟨W, hWe⟩ : ∃ W, W = V4 := ⟨_, rfl⟩
 subst hWe
 clear g1 g2 g3 g4 g2' g3' g4' hX1 hX2 hX3 hrg
 have hr1 := hS1.range
 have hr2 := hS2.range
 go_upto_region 7 with (first
  | ((with_reducible refine wpList_load_to 30 _ (w1.heap.size + 1) 0 [.int .i64 d.a.dev, .int .i64 d.a.inc, .int .i64 d.seq] (dotValR d) rfl _ Tryz.underlying30 rfl (by kernel_rfl) hr1 ?_ rfl ?_); exact rfl)
  | (refine wpList_store_mid rfl 30 _ _ rfl (w.heap.size + 3) 0 #[.int .i64 d.a.dev, .int .i64 d.a.inc, .int .i64 d.seq] rfl rfl (hE.there 0 3 (by omega)) (by kernel_rfl) (by kernel_rfl) ?_))
 refine wp_name (fun V hV => ?_)
 have hE1 := hE.setDot d
 have hk : ∀ k, k ≠ w.heap.size + 3 → V.heap[k]? = W.heap[k]? := fun k hk => by rw [hV.out]; exact heap_setCells_other _ _ _ _ _ (fun h => hk h.symm)
 have vH : Below w.heap.size w V := by rw [hV.out]; exact below_setCells hbt (by omega) _ _
 have yM : Fr (isRE w4.heap.size (w.heap.size + 3)) W V := by rw [hV.out]; exact (Fr.refl _ _).setCells (Or.inr (Or.inr rfl)) _ _
 rw [← hV.out] at hE1
 clear hV hr1 hS1
 have hr2' : V.rangeAt (w2.heap.size + 1) 0 [.int .i64 s.wall, .int .i64 s.count, .int .i64 s.dev] := fun j v hv => (World.cell?_of_block (hk _ (by simp only; omega))).trans (hr2 j v hv)
 go_upto_region 8 with (first
  | ((with_reducible refine wpList_load_to 32 _ (w2.heap.size + 1) 0 [.int .i64 s.wall, .int .i64 s.count, .int .i64 s.dev] (stampVal s) rfl _ Tryz.underlying32 rfl (by kernel_rfl) hr2' ?_ rfl ?_); exact rfl)
  | (refine wpList_store_mid rfl 32 _ _ rfl (w.heap.size + 3) 3 #[.int .i64 s.wall, .int .i64 s.count, .int .i64 s.dev] rfl rfl (hE1.there 3 3 (by omega)) (by kernel_rfl) (by kernel_rfl) ?_))
 refine wp_name (fun V2 hV => ?_)
 have hE2 := hE1.setStamp s
 have hk2 : ∀ k, k ≠ w.heap.size + 3 → V2.heap[k]? = V.heap[k]? := fun k hk => by rw [hV.out]; exact heap_setCells_other _ _ _ _ _ (fun h => hk h.symm)
 have hbt2 : Below w.heap.size w V2 := by rw [hV.out]; exact below_setCells vH (by omega) _ _
 rw [← hV.out] at hE2
 clear hV hr2 hr2' hS2 hE1 vH hbt
 have hX : RdBlk V2 w4.heap.size rn a4 c4 := ((hk2 _ (by omega)).trans (hk _ (by omega))).trans hX4
 replace hZ := ((hk2 _ (by omega)).trans (hk _ (by omega))).trans hZ
 have hD2 : EvBlk V2 (w.heap.size + 2) ev0 none 0 := ((hk2 _ (by omega)).trans (hk _ (by omega))).trans hD
 have xH : V2.ownsRow (w.heap.size + 4) 4 1 fv fl.length (dJ fl) := jE hFL (fun j hj => (hk2 _ (by omega)).trans (hk _ (by omega)))
 have h0V := h0.trans (hbt2.mono h0.size)
 have hXlt := hX.lt
 have xw := rDots_fit k rn
 rw [H5.out] at xw
 have yB : ro.b.length ≤ 1073741824 := Nat.le_trans xw (by omega)
 clear xw
 have hI0 : og w0 V2 V2 w4.heap.size (w.heap.size + 3) ⟨d, s, 2, key0, ck0, []⟩ rn [] := ⟨a4, c4, none, 0, hX, dR, hc4, hE2, World.ownsRow_nil _ _ _ _, Fr.refl _ _⟩
 obtain ⟨i0, hi, hz0, hz1, hz2⟩ := info_parts Tryz.infoDot
 clear hk hk2 hFL hD hX hE2 hX4 hE h0W yM
 go_upto_block 0 with fail
 go_cut [] (fun wx => og w0 V2 wx w4.heap.size (w.heap.size + 3) ⟨d, s, 2, key0, ck0, []⟩ ro l ∧ l.length ≤ 64)
 case first =>
  go_wp2
  go_loopw [13] (fun i wr => ∃ (j m : Nat) (lr : List Dot) (rr : Rd), i = .int .u64 j ∧ j + m = k ∧ m + lr.length ≤ 64 ∧ rr.b.length ≤ 1073741824 ∧ og w0 V2 wr w4.heap.size (w.heap.size + 3) ⟨d, s, 2, key0, ck0, []⟩ rr lr ∧ (ro, l) = ((rDots m rr).1, lr ++ (rDots m rr).2)) (fun i _ => k - (intOf i).toNat)
  case atStart => exact ⟨0, k, [], rn, rfl, by omega, by simp; omega, by omega, hI0, by rw [H5.out]; rfl⟩
  case round =>
   obtain ⟨j, m, lr, rr, rfl, hjm, hm, hrl, HI, hpre⟩ := hrel
   have HP := Lib.hid hpre
   clear hpre hI0
   by_cases hgo : 0 < m ∧ rr.e = 0
   ·obtain ⟨hm0, hre⟩ := hgo
    obtain ⟨n, rfl⟩ : ∃ n, m = n + 1 := ⟨m - 1, by omega⟩
    have hjk : j < k := by omega
    have d1 := decide_eq_true hjk
    have d2 : decide ((j : Int) < (k : Int)) = true := decide_eq_true (by omega)
    have q1 : (rr.e == 0) = true := beq_iff_eq.2 hre
    have hf := rDot_fit rr
    have HS : Hid ((ro, l) = ((rDots n (rDot rr).1).1, (lr ++ [(rDot rr).2]) ++ (rDots n (rDot rr).1).2)) := by rw [Hid, HP.out, qL hre]; simp
    have hG0 := jV rr
    obtain ⟨r2, dd, hrd⟩ : ∃ r2 dd, rDot rr = (r2, dd) := ⟨_, _, rfl⟩
    rw [hrd] at hf HS hG0
    simp only at hf HS hG0
    obtain ⟨ar, cr, ad, cap', hX, hinr, hcr, hE, hown, hF⟩ := HI
    have hzw := hF.size
    have h0R : Below w0.heap.size w0 wr := h0V.trans (hF.below (by have := h0V.size; omega) (fun q hq => by have := h0.size; rcases hq with rfl | rfl <;> omega))
    have HG := Lib.hid (fun (U : World) (h : Below w0.heap.size w0 U) => hG0 ar cr w0 U h hrl hcr hinr)
    obtain ⟨p0, p1, g0, g1⟩ := hX.two
    have hrg := hX.range
    clear hrd hG0 HP hre
    go_upto_region 12 with (first
     | ((with_reducible refine wpList_load_to 206 _ w4.heap.size 0 [.slice ar rr.b.length cr, .int .i64 rr.e] (aH rr ar cr) rfl _ Tryz.underlying206 rfl (by kernel_rfl) hrg ?_ rfl ?_); exact rfl)
     | (go_at_call 177; (with_reducible refine (HG.out _ h0R).mono ?_); rintro x w5 ⟨a5, c5, rfl, l7, hc5, hb5⟩)
     | (refine bZ 206 _ _ _ #[.slice a5 r2.b.length c5, .int .i64 r2.e] _ rfl rfl (by kernel_rfl) rfl (by kernel_rfl) ?_)
     | (refine wpList_store_newAt 30 _ _ _ #[.int .i64 dd.a.dev, .int .i64 dd.a.inc, .int .i64 dd.seq] (w5.heap.size + 1) (by simp) rfl rfl (by kernel_rfl) rfl (by kernel_rfl) ?_))
    refine wp_name (fun U hU => ?_)
    have hN : RdBlk U w5.heap.size r2 a5 c5 := by rw [hU.out]; exact RdBlk.new2 w5 r2 a5 c5 _
    have hS : StBlk U (w5.heap.size + 1) #[.int .i64 dd.a.dev, .int .i64 dd.a.inc, .int .i64 dd.seq] 30 := by rw [hU.out]; exact StBlk.new2 w5 _ _ _
    have hbU : Below wr.heap.size wr U := by rw [hU.out]; exact (hb5.alloc hb5.size _).alloc (Nat.le_trans hb5.size (by simp)) _
    have hz5 := hb5.size
    have hXU := hX.below hbU
    have hEU := hE.below hbU
    have wU := ownsRow_below hown hbU
    have hFU := hF.again (Fr.of_below hbU)
    have hEl := hE.lt
    have hXl := hX.lt
    clear hU hb5 hX hE hown hF p0 p1 g0 g1 hrg
    have hrN := hN.range
    go_upto_region 13 with (first
     | ((with_reducible refine wpList_load_to 206 _ w5.heap.size 0 [.slice a5 r2.b.length c5, .int .i64 r2.e] (aH r2 a5 c5) rfl _ Tryz.underlying206 rfl (by kernel_rfl) hrN ?_ rfl ?_); exact rfl)
     | (refine wpList_store_row rfl 206 _ _ rfl w4.heap.size #[.slice a5 r2.b.length c5, .int .i64 r2.e] rfl rfl 206 (aA rr ar cr) hXU (by kernel_rfl) rfl (by kernel_rfl) ?_))
    refine wp_name (fun Y hY => ?_)
    have hk : ∀ q, q ≠ w4.heap.size → Y.heap[q]? = U.heap[q]? := fun q hq => by rw [hY.out]; exact heap_setRow_other _ _ _ _ (fun e => hq e.symm)
    have hXY : RdBlk Y w4.heap.size r2 a5 c5 := by rw [hY.out]; exact setRow_heap _ _ _ _ _ _ hXU
    have hEY : EvBlk Y (w.heap.size + 3) { (⟨d, s, 2, key0, ck0, []⟩ : Ev) with over := lr } ad cap' := (hk _ (by omega)).trans hEU
    have hSY : StBlk Y (w5.heap.size + 1) #[.int .i64 dd.a.dev, .int .i64 dd.a.inc, .int .i64 dd.seq] 30 := (hk _ (by omega)).trans hS
    have pF : Y.ownsRow V2.heap.size 30 3 (.slice ad lr.length cap') lr.length (dotVals lr) := jE wU (fun q hq => hk q (by omega))
    have hFY : Fr (isRE w4.heap.size (w.heap.size + 3)) V2 Y := by rw [hY.out]; exact hFU.setRow (Or.inr (Or.inl rfl)) _
    have zF := hEY.lt
    have zt := hXY.lt
    have hVY := hFY.size
    clear hY hk hrN hN hXU hEU wU hFU hbU hS
    have e18 := hEY.cell 18 _ rfl
    rw [Nat.zero_add] at e18
    have z18 := hEY.free 18
    have hrS := hSY.range
    have hdv := dotVals_length lr
    go_wp2_with (first
     | ((with_reducible refine wpList_load_to 30 _ (w5.heap.size + 1) 0 [.int .i64 dd.a.dev, .int .i64 dd.a.inc, .int .i64 dd.seq] (dotValR dd) rfl _ Tryz.underlying30 rfl (by kernel_rfl) hrS ?_ rfl ?_); exact rfl)
     | (at_builtin; go_loud (refine wpList_append_own _ rfl _ _ 37 rfl V2.heap.size 30 i0 (.agg #[.int .i64 0, .int .i64 0, .int .i64 0]) 3 24 Tryz.underlying37 hi hz0 hz1 hz2 rfl (by decide) _ _ _ rfl (pF.alloc _) ⟨Y.heap.size, 0, none⟩ 1 1 [.int .i64 dd.a.dev, .int .i64 dd.a.inc, .int .i64 dd.seq] rfl rfl (new3 Y dd _) (by simp [Value.oneCell']) (by unfold maxLen; omega) (by omega) (by simp; omega) ?_)))
    intro v' wf hownf0 hgrow _
    have hownf : wf.ownsRow V2.heap.size 30 3 v' (lr ++ [dd]).length (dotVals (lr ++ [dd])) := by rw [← dotVals_snocR, List.length_append]; exact hownf0
    obtain ⟨ad', cap2, rfl, -⟩ := own_dots hownf
    have hal : Below Y.heap.size Y (Y.alloc (Obj.cells #[.int .i64 dd.a.dev, .int .i64 dd.a.inc, .int .i64 dd.seq] 30)) := (Below.refl _ _).alloc (Nat.le_refl _) _
    have hEf : EvBlk wf (w.heap.size + 3) { (⟨d, s, 2, key0, ck0, []⟩ : Ev) with over := lr } ad cap' := (hEY.below hal).grown hgrow (fun h => by have := (pF.lt _ h.symm).1; omega)
    have hXf : RdBlk wf w4.heap.size r2 a5 c5 := (hgrow.block _ (by simp; omega) (fun h => by have := (pF.lt _ h.symm).1; omega)).trans (hXY.below hal)
    have hFf : Fr (isRE w4.heap.size (w.heap.size + 3)) V2 wf := (hFY.alloc _).grown2 hgrow (fun q hq => (pF.lt q hq).1)
    have e18 := hEf.cell 18 _ rfl
    rw [Nat.zero_add] at e18
    have z18 := hEf.free 18
    have hEs := hEf.setOver (a' := ad') (cap' := cap2) (lr ++ [dd])
    have hXs : RdBlk (wf.setCell ⟨w.heap.size + 3, 18, none⟩ (.slice ad' (lr ++ [dd]).length cap2)) w4.heap.size r2 a5 c5 := (heap_setCell_other _ _ _ _ (by simp only; omega)).trans hXf
    have hos := ownsRow_setCell_other (a := ⟨w.heap.size + 3, 18, none⟩) hownf (fun e => by have := (hownf.lt _ e).1; simp only at this; omega) (.slice ad' (lr ++ [dd]).length cap2)
    have hFs : Fr (isRE w4.heap.size (w.heap.size + 3)) V2 (wf.setCell ⟨w.heap.size + 3, 18, none⟩ (.slice ad' (lr ++ [dd]).length cap2)) := hFf.setCell (Or.inr (Or.inr rfl)) _
    simp only [List.length_append, List.length_singleton] at hEs hXs hFs hos
    have HI2 : og w0 V2 (wf.setCell ⟨w.heap.size + 3, 18, none⟩ (.slice ad' (lr.length + 1) cap2)) w4.heap.size (w.heap.size + 3) ⟨d, s, 2, key0, ck0, []⟩ r2 (lr ++ [dd]) := ⟨a5, c5, ad', cap2, hXs, l7, hc5, by simp only [EvBlk, evCells, List.length_append, List.length_singleton] at hEs ⊢; exact hEs, by simp only [List.length_append, List.length_singleton]; exact hos, hFs⟩
    clear hEs hXs hos hFs hEf hXf hownf hownf0 hgrow hEY hXY pF hFY hSY hrS
    go_wp2
    go_roundw
    case rel => exact ⟨j + 1, n, lr ++ [dd], r2, by go_num, by omega, by simp; omega, by omega, HI2, HS.out⟩
    case measure => simp [intOf] <;> omega
   ·have hend : rDots m rr = (rr, []) := by
     by_cases h0 : m = 0
     ·subst h0; rfl
     ·exact mG (fun e => hgo ⟨by omega, e⟩)
    have hol : ro = rr ∧ l = lr := by
     have h := HP.out
     rw [hend] at h
     simp only [Prod.mk.injEq, List.append_nil] at h
     exact h
    obtain ⟨rfl, rfl⟩ := hol
    have HI2 := Lib.hid HI
    obtain ⟨ax, cx, ad, dE, hX, -, -, -, -, -⟩ := HI
    obtain ⟨p0, p1, zf0, zf1⟩ := hX.two
    clear hend HP hX
    by_cases hjk : j < k
    ·have q1 : (ro.e == 0) = false := beq_eq_false_iff_ne.2 (fun e => hgo ⟨by omega, e⟩)
     have d1 := decide_eq_true hjk
     have d2 : decide ((j : Int) < (k : Int)) = true := decide_eq_true (by omega)
     clear hgo
     go_wp2
     go_meet
     exact ⟨HI2.out, by omega⟩
    ·have d1 := decide_eq_false hjk
     have d2 : decide ((j : Int) < (k : Int)) = false := decide_eq_false (by omega)
     clear hgo
     go_wp2
     go_meet
     exact ⟨HI2.out, by omega⟩
 case rest =>
  obtain ⟨HI, hll⟩ := hcut
  obtain ⟨ax, cx, ad, dE, hX, qV, hcx, hE, hown, hF⟩ := HI
  obtain ⟨U, hUe⟩ : ∃ U, U = wc := ⟨_, rfl⟩
  subst hUe
  have hzw := hF.size
  have hV0 := h0V.size
  have hw0 := h0.size
  have hbt : Below w.heap.size w U := hbt2.trans (hF.below (by omega) (fun q hq => by rcases hq with rfl | rfl <;> omega))
  have hbz := hbt.size
  have h0R := h0.trans (hbt.mono hw0)
  replace hZ := (hF.block _ (by omega) (jc (by omega) (by omega))).trans hZ
  have hD : EvBlk U (w.heap.size + 2) ev0 none 0 := (hF.block _ (by omega) (jc (by omega) (by omega))).trans hD2
  have hd : DotsIn U ad l := by obtain ⟨_, _, h, hd⟩ := own_dots hown; cases h; exact hd
  have hdz : ∀ A off, ad = some ⟨A, off, none⟩ → V2.heap.size ≤ A := own_at hown
  clear hown hD2 hbt2
  obtain ⟨x0, x1, xf0, xf1⟩ := hX.two
  go_upto_if 67 with fail
  go_cut [] (fun wx => xM r w0 w wx w4.heap.size V2.heap.size)
  case first =>
   by_cases hre : ro.e = 0
   ·have q1 : (ro.e == 0) = true := beq_iff_eq.2 hre
    have q2 : (ro.e != 0) = false := by rw [bne_eq_false_iff_eq]; exact hre
    have hf5 : ∃ b0 b1 b2 b3 b4, fl = [b0, b1, b2, b3, b4] := by
     rcases HFI.out with hf0 | hf5
     ·exfalso
      obtain ⟨h3, h4⟩ := H34.out
      have e1 : rf.e ≠ 0 := by have := qH (r := rb) (by rw [h3]; exact hf0); rwa [h3] at this
      have e2 : rn = rf := by unfold rNum at h4; rw [if_neg e1] at h4; cases h4; rfl
      have e3 := tV (m := k) (r := rn) (by rw [e2]; exact e1)
      rw [H5.out] at e3
      exact e3 hre
     ·exact hf5
    obtain ⟨b0, b1, b2, b3, b4, rfl⟩ := hf5
    obtain ⟨g, wK, rfl, hgl, pp⟩ : ∃ g wK, fv = .slice (some ⟨g, 0, none⟩) 5 wK ∧ w.heap.size + 4 ≤ g ∧ ∀ j u, (dJ [b0, b1, b2, b3, b4])[j]? = some u → V2.cell? ⟨g, j, none⟩ = some u := by
     have h2 := xH.2
     rcases h2 with ⟨_, hn⟩ | ⟨g, wK, cur, hv, hbs, hg, rest⟩
     ·simp at hn
     ·refine ⟨g, wK, hv, hbs, fun j u hu => ?_⟩
      have := xH.cells (g := g) (by rw [hv]; rfl) j u hu
      rwa [Addr.add_mid, Nat.zero_add] at this
    have hgx := HFX.out g rfl
    have hgk := fun (j : Nat) (u : Value) (hu : (dJ [b0, b1, b2, b3, b4])[j]? = some u) => hF.kept (pp j u hu) (jc (k := g) (by omega) (by omega))
    have p0 := hgk 0 _ rfl
    have p1 := hgk 1 _ rfl
    have p2 := hgk 2 _ rfl
    have p3 := hgk 3 _ rfl
    have p4 := hgk 4 _ rfl
    have HV2 := Lib.hid (HV.out.trans (if_neg (by simp)))
    have hset : ∀ (W : World) (o j : Nat) (v : Value), (W.setCell ⟨w.heap.size + 3, o, none⟩ v).cell? ⟨g, j, none⟩ = W.cell? ⟨g, j, none⟩ := fun W o j v => World.cell?_setCell_other _ _ _ _ (fun e => by simp only [Addr.mk.injEq] at e; omega)
    have HE0 := Lib.hid hre
    clear hre HV H5 HFI H34 xH HFX pp hgk
    have e11 := hE.cell 11 _ rfl
    have e12 := hE.cell 12 _ rfl
    have e13 := hE.cell 13 _ rfl
    have e14 := hE.cell 14 _ rfl
    rw [Nat.zero_add] at e11 e12 e13 e14
    have z11 := hE.free 11
    have z12 := hE.free 12
    have z13 := hE.free 13
    have z14 := hE.free 14
    go_upto_region 19 with fail
    refine wp_name (fun U1 hU1 => ?_)
    have hk : ∀ q, q ≠ w.heap.size + 3 → U1.heap[q]? = U.heap[q]? := fun q hq => by
     rw [hU1.out]
     exact (heap_setCell_other _ _ _ _ (fun h => hq h.symm)).trans ((heap_setCell_other _ _ _ _ (fun h => hq h.symm)).trans ((heap_setCell_other _ _ _ _ (fun h => hq h.symm)).trans (heap_setCell_other _ _ _ _ (fun h => hq h.symm))))
    have hE1 : EvBlk U1 (w.heap.size + 3) (⟨d, s, 2, key0, ⟨ByteArray.empty, b1, b2, b3, b4, 0, 0, 0⟩, l⟩ : Ev) ad dE := by rw [hU1.out]; exact (((hE.set11 b1).set12 b2).set13 b3).set14 b4
    have vH : Below w.heap.size w U1 := by rw [hU1.out]; exact (((hbt.setCell (by simp only; omega) _).setCell (by simp only; omega) _).setCell (by simp only; omega) _).setCell (by simp only; omega) _
    have hX1 : RdBlk U1 w4.heap.size ro ax cx := (hk _ (by omega)).trans hX
    have hZ1 := (hk _ (by omega)).trans hZ
    have hD1 : EvBlk U1 (w.heap.size + 2) ev0 none 0 := (hk _ (by omega)).trans hD
    have hd1 : DotsIn U1 ad l := hd.keep (fun A off h _ => hk _ (by have := hdz A off h; omega))
    have p0' : U1.cell? ⟨g, 0, none⟩ = some (.bool b0) := (World.cell?_of_block (hk _ (by simp only; omega))).trans p0
    clear hU1 hk hE hbt hX hZ hD hd p0 p1 p2 p3 p4 hset e11 e12 e13 e14 z11 z12 z13 z14 x0 x1 xf0 xf1 hF
    have hbt := vH
    have hX := hX1
    have hZ := hZ1
    have hD := hD1
    clear vH hX1 hZ1 hD1
    cases b0 with
    | false =>
      obtain ⟨ev, hev⟩ : ∃ ev : Ev, ev = ⟨d, s, 2, key0, ⟨ByteArray.empty, b1, b2, b3, b4, 0, 0, 0⟩, l⟩ := ⟨_, rfl⟩
      have HX : Hid (evGo r = (ro, ev)) := by rw [Hid, HV2.out, if_neg (by simp [flagOf]), hev]; rfl
      have hE : EvBlk U1 (w.heap.size + 3) ev ad dE := by rw [hev]; exact hE1
      have hd : DotsIn U1 ad ev.over := by rw [hev]; exact hd1
      have hsm : EvSmall ev := by rw [hev]; exact ⟨Nat.zero_le _, Nat.zero_le _, Nat.zero_le _, Nat.zero_le _, by simp only; omega⟩
      clear hE1 hd1 hev HV2
      go_wp2
      go_meet
      exact ⟨ro, ev, ax, cx, ad, dE, fun h => absurd HE0.out h, fun _ => HX.out, hX, qV, hcx, hE, hd, hdz, hsm, hZ, hD, hbt⟩
    | true =>
      have e6 := hE1.cell 6 _ rfl
      rw [Nat.zero_add] at e6
      have z6 := hE1.free 6
      go_upto_region 21 with fail
      refine wp_name (fun U2 hU2 => ?_)
      obtain ⟨ek, hek⟩ : ∃ ek : Ev, ek = ⟨d, s, 1, key0, ⟨ByteArray.empty, b1, b2, b3, b4, 0, 0, 0⟩, l⟩ := ⟨_, rfl⟩
      have hk : ∀ q, q ≠ w.heap.size + 3 → U2.heap[q]? = U1.heap[q]? := fun q hq => by rw [hU2.out]; exact heap_setCell_other _ _ _ _ (fun h => hq h.symm)
      have hE : EvBlk U2 (w.heap.size + 3) ek ad dE := by rw [hU2.out, hek]; exact hE1.set6 1
      have hbt2 : Below w.heap.size w U2 := by rw [hU2.out]; exact hbt.setCell (by simp only; omega) _
      have hX2 : RdBlk U2 w4.heap.size ro ax cx := (hk _ (by omega)).trans hX
      have hZ2 := (hk _ (by omega)).trans hZ
      have hD2 : EvBlk U2 (w.heap.size + 2) ev0 none 0 := (hk _ (by omega)).trans hD
      have hd2 : DotsIn U2 ad l := hd1.keep (fun A off h _ => hk _ (by have := hdz A off h; omega))
      have hfi := rItem_fit ro
      have HI0 := fun (W : World) (h : Below w0.heap.size w0 W) => sV ro ax cx ek ad dE w0 W h yB hcx qV
      have t1 := rText_fit 256 ro
      have t2 := rText_fit 256 (rText 256 ro).1
      have t3 := rText_fit 256 (rText 256 (rText 256 ro).1).1
      have t4 := rText_fit 1024 (rText 256 (rText 256 (rText 256 ro).1).1).1
      have xX : EvSmall (withItem ek ro) := ⟨by show (rText 256 ro).2.length ≤ _; omega, by show (rText 256 (rText 256 ro).1).2.length ≤ _; omega, by show (rText 256 (rText 256 (rText 256 ro).1).1).2.length ≤ _; omega, by show (rText 1024 (rText 256 (rText 256 (rText 256 ro).1).1).1).2.length ≤ _; omega, by rw [hek]; show l.length ≤ _; omega⟩
      have hov : (withItem ek ro).over = l := by rw [hek]; rfl
      have HX0 : evGo r = (rItem ro, withItem ek ro) := by rw [HV2.out, if_pos (by simp [flagOf]), hek]; rfl
      obtain ⟨ri, hri⟩ : ∃ ri, ri = rItem ro := ⟨_, rfl⟩
      obtain ⟨ei, hei⟩ : ∃ ei, ei = withItem ek ro := ⟨_, rfl⟩
      rw [← hri, ← hei] at HI0 HX0
      rw [← hei] at xX hov
      have HX := Lib.hid HX0
      have HIt := Lib.hid HI0
      have h0U := h0.trans (hbt2.mono hw0)
      clear hU2 hk hE1 hbt hX hZ hD hd1 e6 z6 p0' HI0 HX0 t1 t2 t3 t4 hei hri hek hfi HV2
      have hrg := hX2.range
      have hrc := hE.cell
      go_upto_region 22 with (first
           | ((with_reducible refine wpList_load_to 206 _ w4.heap.size 0 [.slice ax ro.b.length cx, .int .i64 ro.e] (aH ro ax cx) rfl _ Tryz.underlying206 rfl (by kernel_rfl) hrg ?_ rfl ?_); exact rfl)
           | ((with_reducible refine wpList_load_ev _ (w.heap.size + 3) ek ad dE hrc ?_ rfl ?_); exact rfl)
           | (go_at_call 180; (with_reducible refine (HIt.out _ h0U).mono ?_); rintro x w6 ⟨a6, c6, rfl, nY, hc6, hb6⟩)
           | (refine bZ 206 _ _ _ #[.slice a6 ri.b.length c6, .int .i64 ri.e] _ rfl rfl (by kernel_rfl) rfl (by kernel_rfl) ?_)
           | (refine wpList_store_newAt 39 _ _ _ (evCells ei ad dE).toArray (w6.heap.size + 1) (by simp) rfl rfl (by kernel_rfl) rfl (by kernel_rfl) ?_))
      refine wp_name (fun U3 hU3 => ?_)
      have hN : RdBlk U3 w6.heap.size ri a6 c6 := by rw [hU3.out]; exact RdBlk.new2 w6 ri a6 c6 _
      have hS : EvBlk U3 (w6.heap.size + 1) ei ad dE := by rw [hU3.out]; exact StBlk.new2 w6 _ _ _
      have hb3 : Below U2.heap.size U2 U3 := by rw [hU3.out]; exact (hb6.alloc hb6.size _).alloc (Nat.le_trans hb6.size (by simp)) _
      have hz6 := hb6.size
      have hX3 := hX2.below hb3
      have hE3 := hE.below hb3
      have hZ3 := (hb3.block _ (lt_of_block hZ2)).trans hZ2
      have hD3 := hD2.below hb3
      have hd3 := hd2.kept hb3
      have dV := below2 hbt2 hb3
      have hXl := hX2.lt
      have hEl := hE.lt
      clear hU3 hb6 hb3 hX2 hE hZ2 hD2 hd2 hbt2 hrg hrc
      have hrN := hN.range
      have hrS := hS.cell
      have hES : ∀ cs : Array Value, EvBlk (U3.setRow w4.heap.size cs) (w.heap.size + 3) ek ad dE := fun cs => (heap_setRow_other _ _ _ _ (by omega)).trans hE3
      have yC : ∀ cs : Array Value, (U3.setRow w4.heap.size cs).rangeAt (w6.heap.size + 1) 0 (evCells ei ad dE) := fun cs j v hv => (World.cell?_of_block (heap_setRow_other _ _ _ _ (by simp only; omega))).trans (hrS j v hv)
      go_wp2_with (first
           | ((with_reducible refine wpList_load_to 206 _ w6.heap.size 0 [.slice a6 ri.b.length c6, .int .i64 ri.e] (aH ri a6 c6) rfl _ Tryz.underlying206 rfl (by kernel_rfl) hrN ?_ rfl ?_); exact rfl)
           | (refine wpList_store_row rfl 206 _ _ rfl w4.heap.size #[.slice a6 ri.b.length c6, .int .i64 ri.e] rfl rfl 206 (aA ro ax cx) hX3 (by kernel_rfl) rfl (by kernel_rfl) ?_)
           | ((with_reducible refine wpList_load_ev _ (w6.heap.size + 1) ei ad dE (yC _) ?_ rfl ?_); exact rfl)
           | (refine wpList_store_row rfl 39 _ _ rfl (w.heap.size + 3) (evCells ei ad dE).toArray rfl rfl 39 (evCells ek ad dE).toArray (hES _) (by kernel_rfl) rfl (by kernel_rfl) ?_))
      go_meet
      refine ⟨ri, ei, a6, c6, ad, dE, fun h => rEv_err HX.out h, fun _ => HX.out, ?_, nY, hc6, ?_, ?_, hdz, xX, ?_, ?_, below_setRow (below_setRow dV (by omega) _) (by omega) _⟩
      ·exact (heap_setRow_other _ _ _ _ (by omega)).trans (setRow_heap _ _ _ _ _ _ hX3)
      ·exact setRow_heap _ _ _ _ _ _ (hES _)
      ·rw [hov]; exact (hd3.setRow _ (fun A off h => by have := hdz A off h; omega)).setRow _ (fun A off h => by have := hdz A off h; omega)
      ·exact (heap_setRow_other _ _ _ _ (by omega)).trans ((heap_setRow_other _ _ _ _ (by omega)).trans hZ3)
      ·exact (heap_setRow_other _ _ _ _ (by omega)).trans ((heap_setRow_other _ _ _ _ (by omega)).trans hD3)
   ·have q1 : (ro.e == 0) = false := beq_eq_false_iff_ne.2 hre
    have q2 : (ro.e != 0) = true := by rw [bne_iff_ne]; exact hre
    have HE : Hid (rEv r = (ro, ev0)) := by
     have h := HV.out
     split at h
     ·exact rEv_err h hre
     ·split at h
      ·rw [tK hre] at h; exact rEv_err h hre
      ·exact rEv_err h hre
    have HRE := Lib.hid hre
    clear hre HV H5 HFI H34
    go_wp2
    go_meet
    exact ⟨ro, _, ax, cx, ad, dE, fun _ => HE.out, fun h => absurd h HRE.out, hX, qV, hcx, hE, hd, hdz, ⟨Nat.zero_le _, Nat.zero_le _, Nat.zero_le _, Nat.zero_le _, by simp only; omega⟩, hZ, hD, hbt⟩
  case rest =>
   obtain ⟨rx, ev, ax, cx, ad, dE, wP, HGO, hX, qV, hcx, hE, hd, hdz, hsm, hZ, hD, hbt⟩ := hcut
   obtain ⟨U, hUe⟩ : ∃ U, U = wc := ⟨_, rfl⟩
   subst hUe
   clear HV H5 HFI H34
   by_cases hre : rx.e = 0
   ·have HX := HGO hre
    have q1 : (rx.e == 0) = true := beq_iff_eq.2 hre
    have q2 : (rx.e != 0) = false := by rw [bne_eq_false_iff_eq]; exact hre
    cases hok : evOk ev with
    | true =>
      have HE := Lib.hid (rEv_ok HX hre hok)
      clear HX wP HGO hre
      have hRt := Lib.hid (fun (W : World) (h : DotsIn W ad ev.over) => rEventRight_any ev ad dE W hsm h)
      have hrc := hE.cell
      obtain ⟨p0, p1, zf0, zf1⟩ := hX.two
      rw [hok] at hRt
      go_upto_region 28 with (first
           | ((with_reducible refine wpList_load_ev _ (w.heap.size + 3) ev ad dE hrc ?_ rfl ?_); exact rfl)
           | (go_at_call 25; (with_reducible refine (hRt.out _ hd).mono ?_); rintro x w9 ⟨rfl, hb9⟩; obtain ⟨y0, y1, yf0, yf1⟩ := (hX.below hb9).two))
      clear y0 y1 yf0 yf1
      replace hE := hE.below hb9
      replace hX := hX.below hb9
      replace hZ := (hb9.block _ (lt_of_block hZ)).trans hZ
      replace hD := hD.below hb9
      replace hd := hd.kept hb9
      replace hbt := below2 hbt hb9
      clear hb9 hrc p0 p1 zf0 zf1
      have hother : ∀ (W' : World) (g : Nat) (cs : Array Value) (b : Nat) (l : List Value), g ≠ b → W'.rangeAt b 0 l → (W'.setRow g cs).rangeAt b 0 l := fun W' g cs b l hne h j v hv => (World.cell?_of_block (heap_setRow_other _ _ _ _ (by simpa using hne))).trans (h j v hv)
      have hD4 : ∀ cs : Array Value, (w9.drew.setRow (w.heap.size + 1) cs).heap[w.heap.size + 2]? = some (.cells (evCells ev0 none 0).toArray 39 (0, 0)) := fun cs => (heap_setRow_other _ _ _ _ (by omega)).trans hD
      refine wp_region_noPanic ?_
      refine wp_region_held_drew (S := fun W' => W'.rangeAt (w.heap.size + 3) 0 (evCells ev ad dE) ∧ W'.rangeAt w4.heap.size 0 [.slice ax rx.b.length cx, .int .i64 rx.e]) (by kernel_rfl) ⟨hE.cell, hX.range⟩ (fun hHeld => ?_)
      refine tH 0 114 rfl (yieldsIf_load_mid (by rfl) 206 _ rfl w4.heap.size 0 rfl [.slice ax rx.b.length cx, .int .i64 rx.e] _ (fun _ h => h.2) Tryz.underlying206 rfl (by kernel_rfl)) ?_
      try simp only [pS]
      refine tH 1 115 rfl (yieldsIf_load_mid (by rfl) 39 _ rfl (w.heap.size + 3) 0 rfl (evCells ev ad dE) _ (fun _ h => h.1) Tryz.underlying39 rfl (by kernel_rfl)) ?_
      try simp only [pS]
      refine wpAnyH_ready (rs := [2]) (by kernel_rfl) (by simp) ?_
      refine AllReadyH.cons rfl (fun K hK => ?_) AllReadyH.nil
      refine aP rfl 206 _ _ rfl (w.heap.size + 1) #[.slice ax rx.b.length cx, .int .i64 rx.e] rfl rfl 206 au hZ (by kernel_rfl) rfl (by kernel_rfl) ?_
      refine hK.out _ _ ?_ (fun hHeld => ?_)
      ·exact ⟨hother _ _ _ _ _ (by omega) hE.cell, hother _ _ _ _ _ (by omega) hX.range⟩
      clear hK K
      try simp only [pS]
      refine wpAnyH_ready (rs := [3]) (by kernel_rfl) (by simp) ?_
      refine AllReadyH.cons rfl (fun K hK => ?_) AllReadyH.nil
      refine aP rfl 39 _ _ rfl (w.heap.size + 2) (evCells ev ad dE).toArray rfl rfl 39 (evCells ev0 none 0).toArray (hD4 _) (by kernel_rfl) rfl (by kernel_rfl) ?_
      refine hK.out _ _ ?_ (fun hHeld => ?_)
      ·exact ⟨hother _ _ _ _ _ (by omega) (hother _ _ _ _ _ (by omega) hE.cell), hother _ _ _ _ _ (by omega) (hother _ _ _ _ _ (by omega) hX.range)⟩
      clear hK K
      try simp only [pS]
      refine wpAnyH_done (by kernel_rfl) ?_ _
      refine NoPanic.normal ?_
      go_wp2
      have hrows := bI (w := w9.drew) #[.slice ax rx.b.length cx, .int .i64 rx.e] (evCells ev ad dE).toArray (show w.heap.size + 1 ≠ w.heap.size + 2 by omega) hZ hD
      refine aZ 2 3 206 39 206 39 (w.heap.size + 1) (w.heap.size + 2) _ (evCells ev ad dE).toArray _ _ rfl rfl rfl hrows.1 hrows.2 Tryz.underlying206 rfl (by kernel_rfl) Tryz.underlying39 rfl (by kernel_rfl) rfl ?_
      unfold jy
      rw [HE.out]
      exact ⟨ax, cx, ad, dE, rfl, qV, hcx, DotsIn.setRow (DotsIn.setRow (w := w9.drew) (hd.kept (Below.refl _ _).drew) _ (fun A off h => by have := hdz A off h; omega)) _ (fun A off h => by have := hdz A off h; omega), below_setRow (below_setRow hbt.drew (by omega) _) (by omega) _, fun A off h => by have := hdz A off h; omega⟩
    | false =>
      have HE := Lib.hid (rEv_bad HX hre hok)
      clear HX wP HGO hre
      have hRt := Lib.hid (fun (W : World) (h : DotsIn W ad ev.over) => rEventRight_any ev ad dE W hsm h)
      have hrc := hE.cell
      obtain ⟨p0, p1, zf0, zf1⟩ := hX.two
      rw [hok] at hRt
      go_upto_region 26 with (first
           | ((with_reducible refine wpList_load_ev _ (w.heap.size + 3) ev ad dE hrc ?_ rfl ?_); exact rfl)
           | (go_at_call 25; (with_reducible refine (hRt.out _ hd).mono ?_); rintro x w9 ⟨rfl, hb9⟩; obtain ⟨y0, y1, yf0, yf1⟩ := (hX.below hb9).two))
      clear y0 y1 yf0 yf1
      refine wp_name (fun U2 hU2 => ?_)
      have hE' := hE.below hb9
      have hX' := hX.below hb9
      have hk9 : ∀ q, q ≠ w4.heap.size → U2.heap[q]? = w9.heap[q]? := fun q hq => by rw [hU2.out]; exact heap_setCell_other _ _ _ _ (fun e => hq e.symm)
      have hX2 : RdBlk U2 w4.heap.size ⟨rx.b, 1⟩ ax cx := by rw [hU2.out]; exact two_set1 hX' _
      have yg : Below w.heap.size w U2 := by rw [hU2.out]; exact (below2 hbt hb9).setCell (by simp only; omega) _
      have hZ2 := (hk9 _ (by omega)).trans ((hb9.block _ (lt_of_block hZ)).trans hZ)
      have hD2 : EvBlk U2 (w.heap.size + 2) ev0 none 0 := (hk9 _ (by omega)).trans (hD.below hb9)
      clear hU2 hE hE' hX hX' hk9 hZ hD hbt hb9 hrc p0 p1 zf0 zf1 hd
      have hX := hX2
      have hZ := hZ2
      have hD := hD2
      have hbt := yg
      clear hX2 hZ2 hD2 yg
      obtain ⟨U, hUe⟩ : ∃ U, U = U2 := ⟨_, rfl⟩
      subst hUe
      have q5 : ((1 : Int) != 0) = true := rfl
      have hDz : ∀ cs : Array Value, (U.setRow (w.heap.size + 1) cs).heap[w.heap.size + 2]? = some (.cells (evCells ev0 none 0).toArray 39 (0, 0)) := fun cs => (heap_setRow_other _ _ _ _ (by omega)).trans hD
      obtain ⟨p0, p1, zf0, zf1⟩ := hX.two
      have hrg := hX.range
      go_wp2_with (first
           | ((with_reducible refine wpList_load_to 206 _ w4.heap.size 0 [.slice ax (⟨rx.b, 1⟩ : Rd).b.length cx, .int .i64 (⟨rx.b, 1⟩ : Rd).e] (aH (⟨rx.b, 1⟩ : Rd) ax cx) rfl _ Tryz.underlying206 rfl (by kernel_rfl) hrg ?_ rfl ?_); exact rfl)
           | (refine Great.wpList_buildTo rfl 39 _ rfl _ rfl (evCells ev0 none 0).toArray (by kernel_rfl) ?_)
           | (refine wpList_store_row rfl 206 _ _ rfl (w.heap.size + 1) #[.slice ax (⟨rx.b, 1⟩ : Rd).b.length cx, .int .i64 (⟨rx.b, 1⟩ : Rd).e] rfl rfl 206 au hZ (by kernel_rfl) rfl (by kernel_rfl) ?_)
           | (refine wpList_store_row rfl 39 _ _ rfl (w.heap.size + 2) (evCells ev0 none 0).toArray rfl rfl 39 (evCells ev0 none 0).toArray (hDz _) (by kernel_rfl) rfl (by kernel_rfl) ?_))
      have hrows := bI (w := U) #[.slice ax (⟨rx.b, 1⟩ : Rd).b.length cx, .int .i64 (⟨rx.b, 1⟩ : Rd).e] (evCells ev0 none 0).toArray (show w.heap.size + 1 ≠ w.heap.size + 2 by omega) hZ hD
      refine aZ 2 3 206 39 206 39 (w.heap.size + 1) (w.heap.size + 2) _ (evCells ev0 none 0).toArray _ _ rfl rfl rfl hrows.1 hrows.2 Tryz.underlying206 rfl (by kernel_rfl) Tryz.underlying39 rfl (by kernel_rfl) rfl ?_
      unfold jy
      rw [HE.out]
      exact ⟨ax, cx, none, 0, rfl, qV, hcx, Or.inl rfl, below_setRow (below_setRow hbt (by omega) _) (by omega) _, fun A off h => by cases h⟩
   ·have q1 : (rx.e == 0) = false := beq_eq_false_iff_ne.2 hre
    have q2 : (rx.e != 0) = true := by rw [bne_iff_ne]; exact hre
    have HE := Lib.hid (wP hre)
    clear wP HGO hre
    have hDz : ∀ cs : Array Value, (U.setRow (w.heap.size + 1) cs).heap[w.heap.size + 2]? = some (.cells (evCells ev0 none 0).toArray 39 (0, 0)) := fun cs => (heap_setRow_other _ _ _ _ (by omega)).trans hD
    obtain ⟨p0, p1, zf0, zf1⟩ := hX.two
    have hrg := hX.range
    go_wp2_with (first
     | ((with_reducible refine wpList_load_to 206 _ w4.heap.size 0 [.slice ax rx.b.length cx, .int .i64 rx.e] (aH rx ax cx) rfl _ Tryz.underlying206 rfl (by kernel_rfl) hrg ?_ rfl ?_); exact rfl)
     | (refine Great.wpList_buildTo rfl 39 _ rfl _ rfl (evCells ev0 none 0).toArray (by kernel_rfl) ?_)
     | (refine wpList_store_row rfl 206 _ _ rfl (w.heap.size + 1) #[.slice ax rx.b.length cx, .int .i64 rx.e] rfl rfl 206 au hZ (by kernel_rfl) rfl (by kernel_rfl) ?_)
     | (refine wpList_store_row rfl 39 _ _ rfl (w.heap.size + 2) (evCells ev0 none 0).toArray rfl rfl 39 (evCells ev0 none 0).toArray (hDz _) (by kernel_rfl) rfl (by kernel_rfl) ?_))
    have hrows := bI (w := U) #[.slice ax rx.b.length cx, .int .i64 rx.e] (evCells ev0 none 0).toArray (show w.heap.size + 1 ≠ w.heap.size + 2 by omega) hZ hD
    refine aZ 2 3 206 39 206 39 (w.heap.size + 1) (w.heap.size + 2) _ (evCells ev0 none 0).toArray _ _ rfl rfl rfl hrows.1 hrows.2 Tryz.underlying206 rfl (by kernel_rfl) Tryz.underlying39 rfl (by kernel_rfl) rfl ?_
    unfold jy
    rw [HE.out]
    exact ⟨ax, cx, none, 0, rfl, qV, hcx, Or.inl rfl, below_setRow (below_setRow hbt (by omega) _) (by omega) _, fun A off h => by cases h⟩
/-- block X holds the reference's record -/
def RRec (w : World) (X : Nat) (x : Rec) (a : Option Addr) (cap : Nat) : Prop := w.heap[X]? = some (.cells (ah x a cap).toArray 41 (0, 0))
theorem RRec.lt {w : World} {X : Nat} {x : Rec} {a : Option Addr} {cap : Nat} (h : RRec w X x a cap) : X < w.heap.size := lt_of_block h
theorem RRec.below {w w' : World} {X : Nat} {x : Rec} {a : Option Addr} {cap : Nat} (h : RRec w X x a cap) (hb : Below w.heap.size w w') : RRec w' X x a cap := (hb.block _ h.lt).trans h
theorem RRec.cell {w : World} {X : Nat} {x : Rec} {a : Option Addr} {cap : Nat} (h : RRec w X x a cap) : w.rangeAt X 0 (ah x a cap) := fun j v hv => by
 rw [Nat.zero_add]
 simp only [World.cell?, show w.heap[X]? = _ from h]
 simpa using hv
theorem RRec.c1 {w : World} {X : Nat} {x : Rec} {a : Option Addr} {cap : Nat} (h : RRec w X x a cap) : w.cell? ⟨X, 1, none⟩ = some (.int .i64 x.inc) := h.cell 1 _ rfl
theorem RRec.free {w : World} {X o : Nat} {x : Rec} {a : Option Addr} {cap : Nat} (h : RRec w X x a cap) : w.frozen? ⟨X, o, none⟩ = false := by
 simp [World.frozen?, show w.heap[X]? = _ from h]
theorem RRec.setInc {w : World} {X : Nat} {x : Rec} {a : Option Addr} {cap : Nat} (h : RRec w X x a cap) (n : Int) : RRec (w.setCell ⟨X, 1, none⟩ (.int .i64 n)) X ⟨x.kind, n, x.e⟩ a cap := by
 simp [RRec, World.setCell, Array.getElem?_modify, show w.heap[X]? = _ from h, ah, evCells]
theorem RRec.there {w : World} {X : Nat} {x : Rec} {a : Option Addr} {cap : Nat} (h : RRec w X x a cap) : w.there X 2 19 := fun j hj => by
 refine ⟨?_, h.free⟩
 have h2 := h.cell (2 + j) ((ah x a cap).getD (2 + j) undef) (by
  have hl : (ah x a cap).length = 21 := rfl
  rw [List.getD_eq_getElem?_getD, List.getElem?_eq_getElem (by omega)]; rfl)
 rw [Nat.zero_add] at h2
 rw [h2]; rfl
theorem RRec.setEv {w : World} {X : Nat} {x : Rec} {a : Option Addr} {cap : Nat} (h : RRec w X x a cap) (e : Ev) (a' : Option Addr) (cap' : Nat) : RRec (w.setCells X 2 (evCells e a' cap')) X ⟨x.kind, x.inc, e⟩ a' cap' := by
 simp [RRec, World.setCells, World.setCell, Array.getElem?_modify, show w.heap[X]? = _ from h, ah, evCells]
theorem o7 {m : Nat} {r x : Rd} {k : Nat} (h : rNum m r = (x, k)) (he : x.e ≠ 0) : k = 0 := by
 unfold rNum at h
 split at h
 ·split at h
  ·split at h
   ·cases h; rfl
   ·cases h; exact absurd rfl he
  ·cases h; rfl
 ·cases h; rfl
theorem lH {P : Program} {o : Oper} {a : Act} {w : World} (t : TypeId) (parts : Array (Nat × Operand)) (ho : o.op = .build t parts) (cells : Array Value) (hf : P.built t (parts.map fun (i, x) => (i, a.eval x)).toList = some cells) : (execOp a.eval o).run P w = .ok (.value (.agg cells)) w := by
 unfold execOp
 simp only [ho, Sem.run_bind, run_build w t _ cells hf, Result.andThen_ok, Sem.run_pure]
/-- ahead of the last tests -/
def wL (l : Bytes) (w0 w wx : World) (R X : Nat) : Prop :=
 ∃ ry x ax cx ad dE, aK l = bg (ry, x) ∧ RdBlk wx R ry ax cx ∧ ry.b.length ≤ 1073741824 ∧ RRec wx X x ad dE ∧ DotsIn wx ad x.e.over ∧ (∀ A off, ad = some ⟨A, off, none⟩ → w.heap.size < A) ∧
   RRec wx w.heap.size cO none 0 ∧ Below w.heap.size w wx
theorem nR (a : Option Addr) (cap : Nat) (l : Bytes) (w : World) (hl : l.length ≤ 1073741824) (hc : l.length ≤ cap) (hby : BytesIn w a l) :
 Calls Tryz.prog 104 #[.slice a l.length cap] w (ik l w) := by
 have hfit := rNum_fit 4294967296 ⟨l, 0⟩
 have HV : Hid (aK l = bg (dH (rNum 4294967296 ⟨l, 0⟩).2 (rNum 4294967296 ⟨l, 0⟩).1)) := rfl
 obtain ⟨r, k, hk⟩ : ∃ r k, rNum 4294967296 ⟨l, 0⟩ = (r, k) := ⟨_, _, rfl⟩
 have g1 : Hid (∀ W, Below w.heap.size w W → Calls Tryz.prog 142 #[.agg #[.slice a l.length cap, .int .i64 0], .int .u64 4294967296] W (dF r (.int .u64 k) w W)) := fun W h => by have := aW ⟨l, 0⟩ a cap 4294967296 w W h hl hc (by omega) hby; rw [hk] at this; exact this
 have HK0 := Lib.hid (o7 hk)
 rw [hk] at hfit HV
 simp only at hfit HV
 obtain ⟨hrl, yI⟩ := hfit
 have hrl2 : r.b.length ≤ 1073741824 := by omega
 clear hk
 go_enter Tryz.func104, Tryz.ntmps104
 go_upto_region 1 with fail
 refine wp_name (fun W hW => ?_)
 have hbt : Below w.heap.size w W := by rw [hW.out]; go_grown
 have hZ : RRec W w.heap.size cO none 0 := by rw [hW.out]; exact heap_alloc_last w _
 have h0W := hbt
 have hlw := hZ.lt
 clear hW
 go_upto_region 2 with (first
  | (go_at_call 142; (with_reducible refine (g1.out _ h0W).mono ?_); rintro x w1 ⟨a1, c1, rfl, hin1, hc1, hb1⟩)
  | (refine wpList_store_new 206 _ _ _ #[.slice a1 r.b.length c1, .int .i64 r.e] rfl rfl (by kernel_rfl) rfl (by kernel_rfl) ?_))
 refine wp_name (fun V1 hV => ?_)
 have hX1 : RdBlk V1 w1.heap.size r a1 c1 := by rw [hV.out]; exact RdBlk.new w1 r a1 c1
 have hbv : Below W.heap.size W V1 := by rw [hV.out]; exact hb1.alloc hb1.size _
 have hlo1 := Nat.lt_of_lt_of_le hlw hb1.size
 clear hV hb1 hlw
 replace hZ := hZ.below hbv
 replace hbt := below2 hbt hbv
 clear hbv h0W g1
 go_upto_region 3 with (first
  | (refine Great.wpList_buildTo rfl 41 _ rfl _ rfl (ah ⟨k, 0, ev0⟩ none 0).toArray (by kernel_rfl) ?_)
  | (refine wpList_store_new 41 _ _ _ (ah ⟨k, 0, ev0⟩ none 0).toArray rfl rfl (by kernel_rfl) rfl (by kernel_rfl) ?_))
 refine wp_name (fun U hU => ?_)
 have hR : RRec U V1.heap.size ⟨k, 0, ev0⟩ none 0 := by rw [hU.out]; exact heap_alloc_last V1 _
 have hbu : Below V1.heap.size V1 U := by rw [hU.out]; exact (Below.refl _ _).alloc (Nat.le_refl _) _
 have hRX : w1.heap.size < V1.heap.size := hX1.lt
 have hX := hX1.below hbu
 replace hZ := hZ.below hbu
 replace hbt := below2 hbt hbu
 have hRl := hR.lt
 have hwU := hbt.size
 clear hU hbu hX1
 obtain ⟨x0, x1, xf0, xf1⟩ := hX.two
 obtain ⟨tB, htB⟩ : ∃ tB, tB = (decide (r.e = 0) && decide (k = 1)) := ⟨_, rfl⟩
 have HTB := Lib.hid htB
 clear htB
 go_cut [26] (fun v wx => v = .bool tB ∧ U = wx)
 case first =>
  by_cases h1 : r.e = 0
  ·have q1 : (r.e == 0) = true := beq_iff_eq.2 h1
   by_cases h2 : k = 1
   ·have q2 : ((k : Int) == 1) = true := beq_iff_eq.2 (by omega)
    have HT : Hid (tB = true) := by rw [Hid, HTB.out]; simp [h1, h2]
    clear h1 h2
    go_wp2
    go_meet
    exact ⟨by rw [HT.out], rfl⟩
   ·have q2 : ((k : Int) == 1) = false := beq_eq_false_iff_ne.2 (by omega)
    have HT : Hid (tB = false) := by rw [Hid, HTB.out]; simp [h2]
    clear h1 h2
    go_wp2
    go_meet
    exact ⟨by rw [HT.out], rfl⟩
  ·have q1 : (r.e == 0) = false := beq_eq_false_iff_ne.2 h1
   have HT : Hid (tB = false) := by rw [Hid, HTB.out]; simp [h1]
   clear h1
   go_wp2
   go_meet
   exact ⟨by rw [HT.out], rfl⟩
 case rest =>
  obtain ⟨rfl, rfl⟩ := hcut
  go_upto_if 26 with fail
  go_cut [] (fun wx => wL l w w wx w1.heap.size V1.heap.size)
  case first =>
   by_cases h1 : r.e = 0
   ·have q1 : (r.e == 0) = true := beq_iff_eq.2 h1
    by_cases h2 : k = 1
    ·obtain rfl : tB = true := by rw [HTB.out]; simp [h1, h2]
     have hf2 := rNum_fit 1048576 r
     obtain ⟨r2, n, hn⟩ : ∃ r2 n, rNum 1048576 r = (r2, n) := ⟨_, _, rfl⟩
     have HQ : Hid (aK l = bg ((if n = 0 then rFail r2 4 else r2), ⟨1, n, ev0⟩)) := by
           rw [Hid, HV.out]; unfold dH; rw [if_pos h2, hn]
     have g2 : Hid (∀ W, Below w.heap.size w W → Calls Tryz.prog 142 #[aH r a1 c1, .int .u64 1048576] W (dF r2 (.int .u64 n) w W)) := fun W h => by have := aW r a1 c1 1048576 w W h hrl2 hc1 (by omega) hin1; rw [hn] at this; exact this
     have HN0 := Lib.hid (o7 hn)
     rw [hn] at hf2
     simp only at hf2
     obtain ⟨zo, zn⟩ := hf2
     have hrg := hX.range
     clear h1 hn HV HTB HK0
     subst h2
     go_upto_region 5 with (first
           | ((with_reducible refine wpList_load_to 206 _ w1.heap.size 0 [.slice a1 r.b.length c1, .int .i64 r.e] (aH r a1 c1) rfl _ Tryz.underlying206 rfl (by kernel_rfl) hrg ?_ rfl ?_); exact rfl)
           | (go_at_call 142; (with_reducible refine (g2.out _ hbt).mono ?_); rintro x w2 ⟨a2, c2, rfl, hin2, hc2, hb2⟩)
           | (refine wpList_store_new 206 _ _ _ #[.slice a2 r2.b.length c2, .int .i64 r2.e] rfl rfl (by kernel_rfl) rfl (by kernel_rfl) ?_))
     refine wp_name (fun V2 hV => ?_)
     have hX2 : RdBlk V2 w2.heap.size r2 a2 c2 := by rw [hV.out]; exact RdBlk.new w2 r2 a2 c2
     have hbv : Below U.heap.size U V2 := by rw [hV.out]; exact hb2.alloc hb2.size _
     have hz2 := hb2.size
     replace hX := hX.below hbv
     replace hR := hR.below hbv
     replace hZ := hZ.below hbv
     replace hbt := below2 hbt hbv
     clear hV hb2 hbv hrg x0 x1 xf0 xf1 q1 g2
     have hrg := hX2.range
     go_upto_region 6 with (first
           | ((with_reducible refine wpList_load_to 206 _ w2.heap.size 0 [.slice a2 r2.b.length c2, .int .i64 r2.e] (aH r2 a2 c2) rfl _ Tryz.underlying206 rfl (by kernel_rfl) hrg ?_ rfl ?_); exact rfl)
           | (refine wpList_store_row rfl 206 _ _ rfl w1.heap.size #[.slice a2 r2.b.length c2, .int .i64 r2.e] rfl rfl 206 (aA r a1 c1) hX (by kernel_rfl) rfl (by kernel_rfl) ?_))
     refine wp_name (fun Y hY => ?_)
     have hk : ∀ q, q ≠ w1.heap.size → Y.heap[q]? = V2.heap[q]? := fun q hq => by rw [hY.out]; exact heap_setRow_other _ _ _ _ (fun e => hq e.symm)
     have hXY : RdBlk Y w1.heap.size r2 a2 c2 := by rw [hY.out]; exact setRow_heap _ _ _ _ _ _ hX
     have hRY : RRec Y V1.heap.size ⟨((1 : Nat) : Int), 0, ev0⟩ none 0 := (hk _ (by omega)).trans hR
     have hZY : RRec Y w.heap.size cO none 0 := (hk _ (by omega)).trans hZ
     have hbY : Below w.heap.size w Y := by rw [hY.out]; exact below_setRow hbt (by omega) _
     clear hY hk hX hR hZ hbt hrg hX2
     have e1 := hRY.c1
     have ez := hRY.free (o := 1)
     go_upto_region 7 with fail
     refine wp_name (fun T hT => ?_)
     have hk : ∀ q, q ≠ V1.heap.size → T.heap[q]? = Y.heap[q]? := fun q hq => by rw [hT.out]; exact heap_setCell_other _ _ _ _ (fun e => hq e.symm)
     have hRT : RRec T V1.heap.size ⟨1, n, ev0⟩ none 0 := by rw [hT.out]; exact hRY.setInc n
     have hXT : RdBlk T w1.heap.size r2 a2 c2 := (hk _ (by omega)).trans hXY
     have hZT : RRec T w.heap.size cO none 0 := (hk _ (by omega)).trans hZY
     have hbT : Below w.heap.size w T := by rw [hT.out]; exact hbY.setCell (by simp only; omega) _
     clear hT hk hXY hRY hZY hbY e1 ez
     obtain ⟨x0, x1, xf0, xf1⟩ := hXT.two
     by_cases h3 : r2.e = 0
     ·have q1 : (r2.e == 0) = true := beq_iff_eq.2 h3
      by_cases h4 : n = 0
      ·have q2 : ((n : Int) == 0) = true := beq_iff_eq.2 (by omega)
       have HQ2 : Hid (aK l = (cO, 4)) := by
            rw [Hid, HQ.out, if_pos h4]; unfold bg rEnd rFail
            simp only [if_pos h3]
            rfl
       clear h3 h4 HQ HN0
       go_wp2_with (first
            | (refine Great.wpList_buildTo rfl 41 _ rfl _ rfl (ah cO none 0).toArray (by kernel_rfl) ?_)
            | (refine wpList_store_row rfl 41 _ _ rfl w.heap.size (ah cO none 0).toArray rfl rfl 41 (ah cO none 0).toArray hZT (by kernel_rfl) rfl (by kernel_rfl) ?_))
       refine aG 2 3 41 41 w.heap.size (ah cO none 0).toArray _ (.int .i64 4) rfl rfl rfl (setRow_heap _ _ _ _ _ _ hZT) Tryz.underlying41 rfl (by kernel_rfl) rfl ?_
       unfold ik
       rw [HQ2.out]
       exact ⟨none, 0, rfl, Or.inl rfl, below_setRow hbT (Nat.le_refl _) _, fun A off h => by cases h⟩
      ·have q2 : ((n : Int) == 0) = false := beq_eq_false_iff_ne.2 (by omega)
       have HQ2 : Hid (aK l = bg (r2, ⟨1, n, ev0⟩)) := by rw [Hid, HQ.out, if_neg h4]
       clear h3 h4 HQ HN0
       go_wp2
       go_meet
       exact ⟨r2, _, a2, c2, none, 0, HQ2.out, hXT, by omega, hRT, Or.inl rfl, (fun A off h => by cases h), hZT, hbT⟩
     ·have q1 : (r2.e == 0) = false := beq_eq_false_iff_ne.2 h3
      have HQ2 : Hid (aK l = bg (r2, ⟨1, n, ev0⟩)) := by
       rw [Hid, HQ.out, if_pos (HN0.out h3)]; unfold rFail; rw [if_neg h3]
      clear h3 HQ HN0
      go_wp2
      go_meet
      exact ⟨r2, _, a2, c2, none, 0, HQ2.out, hXT, by omega, hRT, Or.inl rfl, (fun A off h => by cases h), hZT, hbT⟩
    ·obtain rfl : tB = false := by rw [HTB.out]; simp [h2]
     by_cases h3 : k = 2
     ·have q2 : ((k : Int) == 2) = true := beq_iff_eq.2 (by omega)
      have hf2 := rEv_fit r
      have HQ : Hid (aK l = bg ((rEv r).1, ⟨2, 0, (rEv r).2⟩)) := by
       rw [Hid, HV.out]; unfold dH; rw [if_neg h2, if_pos h3]
      have g2 := fun (W : World) (h : Below w.heap.size w W) => qK r a1 c1 w W h hrl2 hc1 hin1
      unfold jy at g2
      obtain ⟨r2, ev, hev⟩ : ∃ r2 ev, rEv r = (r2, ev) := ⟨_, _, rfl⟩
      rw [hev] at HQ hf2
      simp only [hev] at g2
      simp only at HQ hf2
      have G2 := Lib.hid g2
      have hrg := hX.range
      clear h1 h2 hev HV HTB HK0 g2
      subst h3
      go_upto_region 11 with (first
       | ((with_reducible refine wpList_load_to 206 _ w1.heap.size 0 [.slice a1 r.b.length c1, .int .i64 r.e] (aH r a1 c1) rfl _ Tryz.underlying206 rfl (by kernel_rfl) hrg ?_ rfl ?_); exact rfl)
       | (go_at_call 143; (with_reducible refine (G2.out _ hbt).mono ?_); rintro x w2 ⟨a2, c2, ae, ce, rfl, hin2, hc2, hd2, hb2, hn2⟩)
       | (refine bZ 206 _ _ _ #[.slice a2 r2.b.length c2, .int .i64 r2.e] _ rfl rfl (by kernel_rfl) rfl (by kernel_rfl) ?_)
       | (refine wpList_store_newAt 39 _ _ _ (evCells ev ae ce).toArray (w2.heap.size + 1) (by simp) rfl rfl (by kernel_rfl) rfl (by kernel_rfl) ?_))
      refine wp_name (fun V2 hV => ?_)
      have hX2 : RdBlk V2 w2.heap.size r2 a2 c2 := by rw [hV.out]; exact RdBlk.new2 w2 r2 a2 c2 _
      have hS2 : EvBlk V2 (w2.heap.size + 1) ev ae ce := by rw [hV.out]; exact StBlk.new2 w2 _ _ _
      have yj : Below w2.heap.size w2 V2 := by rw [hV.out]; exact ((Below.refl _ _).alloc (Nat.le_refl _) _).alloc (by simp) _
      have hbv : Below U.heap.size U V2 := by rw [hV.out]; exact (hb2.alloc hb2.size _).alloc (Nat.le_trans hb2.size (by simp)) _
      have hz2 := hb2.size
      have hdV := hd2.kept yj
      replace hX := hX.below hbv
      replace hR := hR.below hbv
      replace hZ := hZ.below hbv
      replace hbt := below2 hbt hbv
      clear hV hb2 hbv hrg x0 x1 xf0 xf1 q1 q2 G2 yj hd2
      have hrg := hX2.range
      have hrs := hS2.cell
      have yA : ∀ cs : Array Value, (V2.setRow w1.heap.size cs).rangeAt (w2.heap.size + 1) 0 (evCells ev ae ce) := fun cs j v hv => (World.cell?_of_block (heap_setRow_other _ _ _ _ (by simp only; omega))).trans (hrs j v hv)
      have hRS : ∀ cs : Array Value, RRec (V2.setRow w1.heap.size cs) V1.heap.size ⟨((2 : Nat) : Int), 0, ev0⟩ none 0 := fun cs => (heap_setRow_other _ _ _ _ (by omega)).trans hR
      go_wp2_with (first
       | ((with_reducible refine wpList_load_to 206 _ w2.heap.size 0 [.slice a2 r2.b.length c2, .int .i64 r2.e] (aH r2 a2 c2) rfl _ Tryz.underlying206 rfl (by kernel_rfl) hrg ?_ rfl ?_); exact rfl)
       | (refine wpList_store_row rfl 206 _ _ rfl w1.heap.size #[.slice a2 r2.b.length c2, .int .i64 r2.e] rfl rfl 206 (aA r a1 c1) hX (by kernel_rfl) rfl (by kernel_rfl) ?_)
       | ((with_reducible refine wpList_load_ev _ (w2.heap.size + 1) ev ae ce (yA _) ?_ rfl ?_); exact rfl)
       | (refine wpList_store_mid rfl 39 _ _ rfl V1.heap.size 2 (evCells ev ae ce).toArray rfl rfl (RRec.there (hRS _)) (by kernel_rfl) (by kernel_rfl) ?_))
      go_meet
      refine ⟨r2, ⟨2, 0, ev⟩, a2, c2, ae, ce, HQ.out, ?_, by omega, (hRS _).setEv ev ae ce, ?_, (fun A off h => by have := hn2 A off h; omega), ?_, below_setCells (below_setRow hbt (by omega) _) (by omega) _ _⟩
      ·exact (heap_setCells_other _ _ _ _ _ (by omega)).trans (setRow_heap _ _ _ _ _ _ hX)
      ·exact hdV.keep (fun A off h _ => (heap_setCells_other _ _ _ _ _ (by have := hn2 A off h; omega)).trans (heap_setRow_other _ _ _ _ (by have := hn2 A off h; omega)))
      ·exact (heap_setCells_other _ _ _ _ _ (by omega)).trans ((heap_setRow_other _ _ _ _ (by omega)).trans hZ)
     ·have q2 : ((k : Int) == 2) = false := beq_eq_false_iff_ne.2 (by omega)
      have HQ : Hid (aK l = (cO, 1)) := by
       rw [Hid, HV.out]; unfold dH; rw [if_neg h2, if_neg h3]
       unfold bg rEnd rFail
       simp only [if_pos h1]
       rfl
      clear h1 h2 h3 HV HTB
      go_wp2_with (first
       | (refine Great.wpList_buildTo rfl 41 _ rfl _ rfl (ah cO none 0).toArray (by kernel_rfl) ?_)
       | (refine wpList_store_row rfl 41 _ _ rfl w.heap.size (ah cO none 0).toArray rfl rfl 41 (ah cO none 0).toArray hZ (by kernel_rfl) rfl (by kernel_rfl) ?_))
      refine aG 2 3 41 41 w.heap.size (ah cO none 0).toArray _ (.int .i64 1) rfl rfl rfl (setRow_heap _ _ _ _ _ _ hZ) Tryz.underlying41 rfl (by kernel_rfl) rfl ?_
      unfold ik
      rw [HQ.out]
      exact ⟨none, 0, rfl, Or.inl rfl, below_setRow hbt (Nat.le_refl _) _, fun A off h => by cases h⟩
   ·have q1 : (r.e == 0) = false := beq_eq_false_iff_ne.2 h1
    obtain rfl : tB = false := by rw [HTB.out]; simp [h1]
    have hk0 := HK0.out h1
    have HQ : Hid (aK l = bg (r, ⟨k, 0, ev0⟩)) := by
     rw [Hid, HV.out, hk0]; unfold dH; rw [if_neg (by omega), if_neg (by omega)]; unfold rFail; rw [if_neg h1]
    clear h1 hk0 HV HTB
    go_wp2
    go_meet
    exact ⟨r, _, a1, c1, none, 0, HQ.out, hX, hrl2, hR, Or.inl rfl, (fun A off h => by cases h), hZ, hbt⟩
  case rest =>
   obtain ⟨ry, x, ax, cx, ad, dE, hQ, hX, yZ, hR, hd, hdz, hZ, hbt⟩ := hcut
   obtain ⟨U, hUe⟩ : ∃ U, U = wc := ⟨_, rfl⟩
   subst hUe
   have HQ := Lib.hid hQ
   have hXl := hX.lt
   have hRl := hR.lt
   obtain ⟨p0, p1, pf0, pf1⟩ := hX.two
   clear hQ HV HTB HK0
   by_cases h1 : ry.e = 0
   ·have q1 : (ry.e == 0) = true := beq_iff_eq.2 h1
    have q2 : (ry.e != 0) = false := by rw [bne_eq_false_iff_eq]; exact h1
    by_cases h2 : 0 < ry.b.length
    ·have d1 := decide_eq_true h2
     have d2 : decide ((0 : Int) < (ry.b.length : Int)) = true := decide_eq_true (by omega)
     have HQ2 : Hid (aK l = (cO, 1)) := by rw [Hid, HQ.out]; unfold bg rEnd; simp only [if_pos h1, if_pos h2]; rfl
     clear h1 HQ
     go_upto_region 17 with fail
     refine wp_name (fun U2 hU2 => ?_)
     have hk : ∀ q, q ≠ w1.heap.size → U2.heap[q]? = U.heap[q]? := fun q hq => by rw [hU2.out]; exact heap_setCell_other _ _ _ _ (fun e => hq e.symm)
     have hX2 : RdBlk U2 w1.heap.size ⟨ry.b, 1⟩ ax cx := by rw [hU2.out]; exact two_set1 hX _
     have hbt2 : Below w.heap.size w U2 := by rw [hU2.out]; exact hbt.setCell (by simp only; omega) _
     have hZ2 : RRec U2 w.heap.size cO none 0 := (hk _ (by omega)).trans hZ
     clear hU2 hk hX hbt hZ p0 p1 pf0 pf1 q1 q2
     obtain ⟨p0, p1, pf0, pf1⟩ := hX2.two
     go_upto_region 18 with fail
     refine wp_region_noPanic ?_
     refine wp_region_held_drew (S := fun W' => W'.cell? ⟨w1.heap.size, 1, none⟩ = some (.int .i64 1)) (by kernel_rfl) p1 (fun hHeld => ?_)
     refine tH 0 76 rfl (Or.inl ⟨by rfl, fun W hSW => lH _ _ rfl (ah cO none 0).toArray (by kernel_rfl)⟩) ?_
     try simp only [pS]
     refine tH (v := ?_) 1 77 rfl (Or.inl ⟨by rfl, ?_⟩) ?_
     case refine_2 => (intro w hSw; go_simp; try with_reducible rfl)
     try simp only [pS]
     refine tH (v := ?_) 2 78 rfl (Or.inl ⟨by rfl, ?_⟩) ?_
     case refine_2 => (intro w hSw; go_simp; try with_reducible rfl)
     try simp only [pS]
     refine wpAnyH_ready (rs := [3]) (by kernel_rfl) (by simp) ?_
     refine AllReadyH.cons rfl (fun K hK => ?_) AllReadyH.nil
     refine aP rfl 41 _ _ rfl w.heap.size (ah cO none 0).toArray rfl rfl 41 (ah cO none 0).toArray hZ2 (by kernel_rfl) rfl (by kernel_rfl) ?_
     refine hK.out _ _ ?_ (fun hHeld => ?_)
     ·exact ((World.cell?_of_block (heap_setRow_other _ _ _ _ (by simp only; omega))).trans p1)
     clear hK K
     try simp only [pS]
     refine tH (v := ?_) 4 3 rfl (Or.inl ⟨by rfl, ?_⟩) ?_
     case refine_2 => (intro w hSw; go_simp; try with_reducible rfl)
     try simp only [pS]
     refine wpAnyH_done (by kernel_rfl) ?_ _
     refine NoPanic.normal ?_
     go_wp2
     refine aG 2 3 41 41 w.heap.size (ah cO none 0).toArray _ (.int .i64 1) rfl rfl rfl (setRow_heap U2.drew _ _ _ _ _ hZ2) Tryz.underlying41 rfl (by kernel_rfl) rfl ?_
     unfold ik
     rw [HQ2.out]
     exact ⟨none, 0, rfl, Or.inl rfl, below_setRow hbt2.drew (Nat.le_refl _) _, fun A off h => by cases h⟩
    ·have d1 := decide_eq_false h2
     have d2 : decide ((0 : Int) < (ry.b.length : Int)) = false := decide_eq_false (by omega)
     have HQ2 : Hid (aK l = (x, 0)) := by rw [Hid, HQ.out]; unfold bg rEnd; simp only [if_pos h1, if_neg h2]; rfl
     have hrr := hR.cell
     clear h1 HQ
     go_wp2_with (first
           | ((with_reducible refine wpList_load_to 41 _ V1.heap.size 0 (ah x ad dE) (aU x ad dE) rfl _ Tryz.underlying41 rfl (by kernel_rfl) hrr ?_ rfl ?_); exact rfl)
           | (refine wpList_store_row rfl 41 _ _ rfl w.heap.size (ah x ad dE).toArray rfl rfl 41 (ah cO none 0).toArray hZ (by kernel_rfl) rfl (by kernel_rfl) ?_))
     refine aG 2 3 41 41 w.heap.size (ah x ad dE).toArray _ (.int .i64 0) rfl rfl rfl (setRow_heap _ _ _ _ _ _ hZ) Tryz.underlying41 rfl (by kernel_rfl) rfl ?_
     unfold ik
     rw [HQ2.out]
     exact ⟨ad, dE, rfl, hd.setRow _ (fun A off h => hdz A off h), below_setRow hbt (Nat.le_refl _) _, fun A off h => Nat.le_of_lt (hdz A off h)⟩
   ·have q1 : (ry.e == 0) = false := beq_eq_false_iff_ne.2 h1
    have q2 : (ry.e != 0) = true := by rw [bne_iff_ne]; exact h1
    have HQ2 : Hid (aK l = (cO, ry.e)) := by rw [Hid, HQ.out]; unfold bg rEnd; simp only [if_neg h1]
    have hbt2 := hbt
    have hZ2 := hZ
    clear h1 HQ
    go_upto_region 18 with fail
    refine wp_region_noPanic ?_
    refine wp_region_held_drew (S := fun W' => W'.cell? ⟨w1.heap.size, 1, none⟩ = some (.int .i64 ry.e)) (by kernel_rfl) p1 (fun hHeld => ?_)
    refine tH 0 76 rfl (Or.inl ⟨by rfl, fun W hSW => lH _ _ rfl (ah cO none 0).toArray (by kernel_rfl)⟩) ?_
    try simp only [pS]
    refine tH (v := ?_) 1 77 rfl (Or.inl ⟨by rfl, ?_⟩) ?_
    case refine_2 => (intro w hSw; go_simp; try with_reducible rfl)
    try simp only [pS]
    refine tH (v := ?_) 2 78 rfl (Or.inl ⟨by rfl, ?_⟩) ?_
    case refine_2 => (intro w hSw; go_simp; try with_reducible rfl)
    try simp only [pS]
    refine wpAnyH_ready (rs := [3]) (by kernel_rfl) (by simp) ?_
    refine AllReadyH.cons rfl (fun K hK => ?_) AllReadyH.nil
    refine aP rfl 41 _ _ rfl w.heap.size (ah cO none 0).toArray rfl rfl 41 (ah cO none 0).toArray hZ2 (by kernel_rfl) rfl (by kernel_rfl) ?_
    refine hK.out _ _ ?_ (fun hHeld => ?_)
    ·exact ((World.cell?_of_block (heap_setRow_other _ _ _ _ (by simp only; omega))).trans p1)
    clear hK K
    try simp only [pS]
    refine tH (v := ?_) 4 3 rfl (Or.inl ⟨by rfl, ?_⟩) ?_
    case refine_2 => (intro w hSw; go_simp; try with_reducible rfl)
    try simp only [pS]
    refine wpAnyH_done (by kernel_rfl) ?_ _
    refine NoPanic.normal ?_
    go_wp2
    refine aG 2 3 41 41 w.heap.size (ah cO none 0).toArray _ (.int .i64 ry.e) rfl rfl rfl (setRow_heap U.drew _ _ _ _ _ hZ2) Tryz.underlying41 rfl (by kernel_rfl) rfl ?_
    unfold ik
    rw [HQ2.out]
    exact ⟨none, 0, rfl, Or.inl rfl, below_setRow hbt2.drew (Nat.le_refl _) _, fun A off h => by cases h⟩
/-- a list of records that grows, in memory of its own; the dots elsewhere -/
structure RRecsOwn (w0 : World) (v : Value) (ls : List aY) (W : World) : Prop where
 own : W.ownsRow w0.heap.size 41 21 v ls.length (bJ ls)
 dots : ∀ x ∈ ls, DotsIn W x.2.1 x.1.e.over
 ne : ∀ x ∈ ls, ∀ A off, x.2.1 = some ⟨A, off, none⟩ → w0.heap.size ≤ A ∧ (x.1.e.over ≠ [] → v.ownBlock ≠ some A)
 bel : Below w0.heap.size w0 W
theorem RRecsOwn.nil (w0 : World) : RRecsOwn w0 (.slice none 0 0) [] w0 := ⟨World.ownsRow_nil _ _ _ _, fun x hx => by simp at hx, fun x hx => by simp at hx, Below.refl _ _⟩
theorem RRecsOwn.step {w0 w w' : World} {v : Value} {ls : List aY} (h : RRecsOwn w0 v ls w) (hb : Below w.heap.size w w') : RRecsOwn w0 v ls w' :=
 ⟨ownsRow_below h.own hb, fun x hx => (h.dots x hx).kept hb, h.ne, h.bel.trans (hb.mono h.bel.size)⟩
theorem RRecsOwn.app {w0 w w2 : World} {v v2 : Value} {ls : List aY} {x : aY} (h : RRecsOwn w0 v ls w) (hown : w2.ownsRow w0.heap.size 41 21 v2 (ls.length + 1) (bJ ls ++ ah x.1 x.2.1 x.2.2))
 (hg : w.grownBy w2 v.ownBlock) (hat : v2.ownBlock = v.ownBlock ∨ v2.ownBlock = some w.heap.size) (hd : DotsIn w x.2.1 x.1.e.over) (hx : ∀ A off, x.2.1 = some ⟨A, off, none⟩ → w0.heap.size ≤ A ∧ (x.1.e.over ≠ [] → v.ownBlock ≠ some A)) : RRecsOwn w0 v2 (ls ++ [x]) w2 := by
 have hall : ∀ y ∈ ls ++ [x], DotsIn w y.2.1 y.1.e.over ∧ ∀ A off, y.2.1 = some ⟨A, off, none⟩ → w0.heap.size ≤ A ∧ (y.1.e.over ≠ [] → v.ownBlock ≠ some A) := by
  intro y hy
  rcases List.mem_append.1 hy with hy | hy
  ·exact ⟨h.dots y hy, h.ne y hy⟩
  ·simp only [List.mem_singleton] at hy; subst hy; exact ⟨hd, hx⟩
 refine ⟨by rw [gW, List.length_append]; exact hown, fun y hy => ?_, fun y hy A off hA => ⟨((hall y hy).2 A off hA).1, fun hne => ?_⟩, h.bel.grown hg h.bel.size (fun k hk => (h.own.lt k hk).1)⟩
 ·obtain ⟨h1, h2⟩ := hall y hy
  refine h1.keep (fun A off hA hne => hg.block A ?_ (fun e => (h2 A off hA).2 hne e.symm))
  rw [hA] at h1; exact h1.lt hne
 ·obtain ⟨h1, h2⟩ := hall y hy
  rcases hat with hat | hat
  ·rw [hat]; exact (h2 A off hA).2 hne
  ·rw [hA] at h1
   have := h1.lt hne
   rw [hat]; intro e; injection e with e; omega
theorem RRecsOwn.fresh {w0 w : World} {v : Value} {ls : List aY} (h : RRecsOwn w0 v ls w) {a : Option Addr} {p : Prop} (hn : ∀ A off, a = some ⟨A, off, none⟩ → w.heap.size ≤ A) : ∀ A off, a = some ⟨A, off, none⟩ → w0.heap.size ≤ A ∧ (p → v.ownBlock ≠ some A) :=
 fun A off ha => ⟨Nat.le_trans h.bel.size (hn A off ha), fun _ e => by have := hn A off ha; have := (h.own.lt A e).2; omega⟩
/-- behind the reference's Scan -/
def pV (r : List Rec × Nat) (w : World) (e : Ending) (w' : World) : Prop :=
 ∃ v ls, e = .returned (.tuple #[v, .int .i64 r.2]) ∧ RRecsOwn w v ls w' ∧ ls.map (·.1) = r.1
theorem nO (a : Option Addr) (cap : Nat) (l : Bytes) (w : World) (hl : l.length ≤ 1073741824) (hcap : l.length ≤ cap) (h : BytesIn w a l) :
 Calls Tryz.prog 68 #[.slice a l.length cap] w (pV (aC l) w) := by
 obtain ⟨i0, hi, hz0, hz1, hz2⟩ := info_parts Tryz.infoRec2
 have hI0 : RRecsOwn w (.slice (some ⟨w.heap.size, 0, none⟩) 0 0) [] (w.alloc (Obj.cells #[] 41)) := ⟨World.ownsRow_made _ _ _ (Nat.le_refl _) (by decide) rfl, fun x hx => by simp at hx, fun x hx => by simp at hx, (Below.refl _ _).alloc (Nat.le_refl _) _⟩
 go_enter Tryz.func68, Tryz.ntmps68
 go_wp2
 go_loopw [4, 5] (fun out s wr => ∃ (n : Nat) (ls : List aY), s = .int .i64 n ∧ n ≤ l.length ∧ ls.length ≤ n ∧ RRecsOwn w out ls wr ∧ aC l = (ls.map (·.1) ++ (aC (l.drop n)).1, n + (aC (l.drop n)).2)) (fun _ s _ => l.length - (intOf s).toNat)
 case atStart => exact ⟨0, [], rfl, Nat.zero_le _, Nat.zero_le _, hI0, by simp⟩
 case round =>
  obtain ⟨n, ls, rfl, hn, hln, hinv, hpre⟩ := hrel
  have HP := Lib.hid hpre
  clear hpre hI0
  have hin := (h.kept hinv.bel).cut hcap n
  have hlen : (l.drop n).length = l.length - n := List.length_drop ..
  have hsl : ∀ W, (Instr.sliceAt 65 (.slice a l.length cap) (some (.int .i64 (n : Int))) none none).run Tryz.prog W = .ok (.slice (cutA a cap n 1) (l.length - n) (cap - n)) W := fun W => jI W a l.length cap .i64 n hn
  have hg := fun (W : World) (hx : BytesIn W (cutA a cap n 1) (l.drop n)) => qF (cutA a cap n 1) (cap - n) (l.drop n) W (by omega) (by omega) hx
  have hf := gm (l.drop n)
  rw [hlen] at hg hf
  obtain ⟨b, k, e, hx⟩ : ∃ b k e, aS (l.drop n) = (b, k, e) := ⟨_, _, _, rfl⟩
  rw [hx] at hg hf
  unfold pW at hg
  simp only at hf hg
  have HG := Lib.hid hg
  have hzb := hinv.bel.size
  clear hg
  by_cases he : e = 0
  ·subst he
   obtain ⟨hnk, hkl⟩ := jd hx
   rw [hlen] at hkl
   have hbl : b.length ≤ 1048576 ∧ 5 ≤ k := by
        rcases hf with ⟨-, h5, -, h6, -⟩ | ⟨h6, -⟩
        ·exact ⟨h6, h5⟩
        ·exact absurd rfl h6
   obtain ⟨hb1, hk5⟩ := hbl
   have hR0 := fun (A : Option Addr) (C : Nat) (W : World) (hc : b.length ≤ C) (hb : BytesIn W A b) => nR A C b W (by omega) hc hb
   obtain ⟨x, f, hxr⟩ : ∃ x f, aK b = (x, f) := ⟨_, _, rfl⟩
   unfold ik at hR0
   simp only [hxr] at hR0
   have HR := Lib.hid hR0
   have q1 : ((0 : Int) != 0) = false := rfl
   clear hR0 hf hnk hlen
   by_cases hf0 : f = 0
   ·subst hf0
    have HE : Hid (aC l = ((ls.map (·.1) ++ [x]) ++ (aC (l.drop (n + k))).1, n + k + (aC (l.drop (n + k))).2)) := by
     rw [Hid, HP.out, kR hx hxr, List.drop_drop]; simp [Nat.add_assoc]
    clear hx hxr HP
    go_upto_region 9 with (first
     | (refine dm rfl _ (bu _ _ _ _ _ rfl _ (hsl _)) ?_)
     | (go_at_call 103; (with_reducible refine (HG.out _ hin).mono ?_); rintro _ w1 ⟨v1, rfl, hown1, uk⟩; obtain ⟨ab, cb, rfl, uh⟩ := own_bytes hown1; have hcb := pq hown1)
     | (go_at_call 104; (with_reducible refine (HR.out _ _ _ hcb uh).mono ?_); rintro _ w2 ⟨a1, c1, rfl, hd1, hb2, hn1⟩)
     | (refine wpList_store_new 41 _ _ _ (ah x a1 c1).toArray rfl rfl (by kernel_rfl) rfl (by kernel_rfl) ?_))
    refine wp_name (fun W9 hW9 => ?_)
    have hb9 : Below w2.heap.size w2 W9 := by rw [hW9.out]; exact (Below.refl _ _).alloc (Nat.le_refl _) _
    have hR9 : W9.rangeAt w2.heap.size 0 (ah x a1 c1) := by rw [hW9.out]; exact bi x a1 c1 w2 _
    have vC := hinv.step uk
    have hxx := vC.fresh (p := x.e.over ≠ []) hn1
    have jY := (vC.step hb2).step hb9
    have hd9 := hd1.kept hb9
    have hz9 := jY.bel.size
    clear hW9 hb9 hd1 hn1 hinv vC hin uk hb2 hown1 uh hcb
    go_wp2_with (first
     | ((with_reducible refine wpList_load_to 41 _ w2.heap.size 0 (ah x a1 c1) (aU x a1 c1) rfl _ Tryz.underlying41 rfl (by kernel_rfl) hR9 ?_ rfl ?_); exact rfl)
     | (refine eH rfl 22 41 _ rfl (ah x a1 c1).toArray 21 rfl rfl (by decide) (by decide) Tryz.underlying22 (by kernel_rfl) (by kernel_rfl) ?_)
     | (at_builtin; go_loud (refine wpList_append_own_at _ rfl _ _ 22 rfl w.heap.size 41 i0 (.agg (ah cO none 0).toArray) 21 192 Tryz.underlying22 hi hz0 hz1 hz2 rfl (by decide) _ _ _ rfl (jY.own.alloc _) ⟨W9.heap.size, 0, none⟩ 1 1 (ah x a1 c1) rfl rfl (kP W9 x a1 c1 _) (gI _ _ _) (by unfold maxLen; omega) (by omega) (by simp; omega) ?_); intro v' wf hown3 hgrow _ hat; have vz := RRecsOwn.app (x := (x, a1, c1)) (jY.step ((Below.refl _ _).alloc (Nat.le_refl _) _)) hown3 hgrow hat (hd9.kept ((Below.refl _ _).alloc (Nat.le_refl _) _)) hxx))
    go_roundw
    case rel => exact ⟨n + k, ls ++ [(x, a1, c1)], by go_num, by omega, by simp; omega, vz, by rw [HE.out]; simp⟩
    case measure => simp [intOf] <;> omega
   ·have q2 : (f != 0) = true := by rw [bne_iff_ne]; exact hf0
    have HE : Hid (aC l = (ls.map (·.1), n)) := by rw [Hid, HP.out, jQ hx hxr hf0]; simp
    clear hx hxr HP hf0
    go_wp2_with (first
     | (refine dm rfl _ (bu _ _ _ _ _ rfl _ (hsl _)) ?_)
     | (go_at_call 103; (with_reducible refine (HG.out _ hin).mono ?_); rintro _ w1 ⟨v1, rfl, hown1, uk⟩; obtain ⟨ab, cb, rfl, uh⟩ := own_bytes hown1; have hcb := pq hown1)
     | (go_at_call 104; (with_reducible refine (HR.out _ _ _ hcb uh).mono ?_); rintro _ w2 ⟨a1, c1, rfl, hd1, hb2, hn1⟩)
     | (refine wpList_store_new 41 _ _ _ (ah x a1 c1).toArray rfl rfl (by kernel_rfl) rfl (by kernel_rfl) ?_))
    all_goals
     try rw [Exit.noGoto_ret]
     go_ret2
     rw [HE.out]
     exact ⟨_, ls, rfl, ((hinv.step uk).step hb2).step ((Below.refl _ _).alloc (Nat.le_refl _) _), rfl⟩
  ·have q1 : (e != 0) = true := by rw [bne_iff_ne]; exact he
   have HE : Hid (aC l = (ls.map (·.1), n)) := by rw [Hid, HP.out, dC (by rw [hx]; exact he)]; simp
   clear hx HP he hf hlen
   go_wp2_with (first
        | (refine dm rfl _ (bu _ _ _ _ _ rfl _ (hsl _)) ?_)
        | (go_at_call 103; (with_reducible refine (HG.out _ hin).mono ?_); rintro _ w1 ⟨v1, rfl, hown1, uk⟩))
   all_goals
        try rw [Exit.noGoto_ret]
        go_ret2
        rw [HE.out]
        exact ⟨_, ls, rfl, hinv.step uk, rfl⟩
end Go.Proofs.YtlefejokpdjpgaaGreat
