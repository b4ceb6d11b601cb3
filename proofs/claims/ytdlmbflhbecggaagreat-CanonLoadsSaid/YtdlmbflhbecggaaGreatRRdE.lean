/- The references' reader by value: a put's key and cookie. Conditions: at most 2^30 bytes. -/
import Derived.Test.YtdlmbflhbecggaaGreatRRd
set_option linter.unusedSimpArgs false
set_option linter.unusedVariables false
set_option linter.unnecessarySimpa false
set_option maxHeartbeats 16000000
set_option maxRecDepth 100000
namespace Go.Proofs.YtdlmbflhbecggaaGreat
open Go.RowKit
/-- behind a read of an event: the reader behind it, and the event -/
def Oj (r : Rd) (e : Ev) (ae : Option Addr) (ce : Nat) (w0 w : World) (x : Ending) (w' : World) : Prop :=
 ∃ a cap, x = .returned (.tuple #[bz r a cap, jF e ae ce]) ∧ BytesIn w0 a r.b ∧ r.b.length ≤ cap ∧ Below w.heap.size w w'
theorem EvBlk.setKey {w : World} {E : Nat} {e : Ev} {a : Option Addr} {cap : Nat} (h : EvBlk w E e a cap) (x y z : ByteArray) : EvBlk (w.setCells E 7 [.string x, .string y, .string z]) E { e with key := ⟨x, y, z⟩ } a cap := by
 simp [EvBlk, World.setCells, World.setCell, Array.getElem?_modify, show w.heap[E]? = _ from h, ag]
theorem below_setCells {B : Nat} {W w : World} (h : Below B W w) {g : Nat} (hg : B ≤ g) : ∀ (vs : List Value) (o : Nat), Below B W (w.setCells g o vs) := by
 intro vs
 induction vs generalizing w with
 | nil => intro o; exact h
 | cons v vs ih => intro o; rw [World.setCells]; exact ih (h.setCell hg v) _
theorem Ic (r : Rd) (a : Option Addr) (cap : Nat) (e : Ev) (ae : Option Addr) (ce : Nat) (w0 w : World) (h0 : Below w0.heap.size w0 w) (hl : r.b.length ≤ 1073741824) (hc : r.b.length ≤ cap) (hby : BytesIn w0 a r.b) :
 Calls Tryz.prog 77 #[bz r a cap, jF e ae ce] w (Oj (fE r) (bW e r) ae ce w0 w) := by
 have HV1 : Hid (fE r = (bu 1099511627776 (bu 1099511627776 (gB 1099511627776 (aJ 1024 (aJ 256 (aJ 256 (aJ 256 r).1).1).1).1).1).1).1) := rfl
 have HV2 : Hid (bW e r = { e with key := ⟨mkS (aJ 256 r).2, mkS (aJ 256 (aJ 256 r).1).2, mkS (aJ 256 (aJ 256 (aJ 256 r).1).1).2⟩, ck := { e.ck with value := mkS (aJ 1024 (aJ 256 (aJ 256 (aJ 256 r).1).1).1).2, expiry := (gB 1099511627776 (aJ 1024 (aJ 256 (aJ 256 (aJ 256 r).1).1).1).1).2, creation := (bu 1099511627776 (gB 1099511627776 (aJ 1024 (aJ 256 (aJ 256 (aJ 256 r).1).1).1).1).1).2, access := (bu 1099511627776 (bu 1099511627776 (gB 1099511627776 (aJ 1024 (aJ 256 (aJ 256 (aJ 256 r).1).1).1).1).1).1).2 } }) := rfl
 obtain ⟨r1, v1, g1⟩ : ∃ r1 v1, aJ 256 r = (r1, v1) := ⟨_, _, rfl⟩
 have f1 := bZ 256 r
 rw [g1] at f1 HV1 HV2
 simp only at f1 HV1 HV2
 obtain ⟨r2, v2, g2⟩ : ∃ r2 v2, aJ 256 r1 = (r2, v2) := ⟨_, _, rfl⟩
 have f2 := bZ 256 r1
 rw [g2] at f2 HV1 HV2
 simp only at f2 HV1 HV2
 obtain ⟨r3, v3, g3⟩ : ∃ r3 v3, aJ 256 r2 = (r3, v3) := ⟨_, _, rfl⟩
 have f3 := bZ 256 r2
 rw [g3] at f3 HV1 HV2
 simp only at f3 HV1 HV2
 obtain ⟨r4, v4, g4⟩ : ∃ r4 v4, aJ 1024 r3 = (r4, v4) := ⟨_, _, rfl⟩
 have f4 := bZ 1024 r3
 rw [g4] at f4 HV1 HV2
 simp only at f4 HV1 HV2
 obtain ⟨r5, v5, g5⟩ : ∃ r5 v5, gB 1099511627776 r4 = (r5, v5) := ⟨_, _, rfl⟩
 have f5 := xO 1099511627776 r4 (by omega)
 rw [g5] at f5 HV1 HV2
 simp only at f5 HV1 HV2
 obtain ⟨r6, v6, g6⟩ : ∃ r6 v6, bu 1099511627776 r5 = (r6, v6) := ⟨_, _, rfl⟩
 have f6 := bC 1099511627776 r5
 rw [g6] at f6 HV1 HV2
 simp only at f6 HV1 HV2
 obtain ⟨r7, v7, g7⟩ : ∃ r7 v7, bu 1099511627776 r6 = (r7, v7) := ⟨_, _, rfl⟩
 have f7 := bC 1099511627776 r6
 rw [g7] at f7 HV1 HV2
 simp only at f7 HV1 HV2
 have C1 : Hid (∀ (a : Option Addr) (cap : Nat) W, Below w0.heap.size w0 W → r.b.length ≤ cap → BytesIn w0 a r.b → Calls Tryz.prog 121 #[bz r a cap, .int .i64 256] W (iO r1 (.string (mkS v1)) w0 W)) := fun a cap W h hc hb => by have := kR r a cap 256 w0 W h (by omega) hc (by omega) (by omega) hb; rw [g1] at this; exact this
 have C2 : Hid (∀ (a : Option Addr) (cap : Nat) W, Below w0.heap.size w0 W → r1.b.length ≤ cap → BytesIn w0 a r1.b → Calls Tryz.prog 121 #[bz r1 a cap, .int .i64 256] W (iO r2 (.string (mkS v2)) w0 W)) := fun a cap W h hc hb => by have := kR r1 a cap 256 w0 W h (by omega) hc (by omega) (by omega) hb; rw [g2] at this; exact this
 have C3 : Hid (∀ (a : Option Addr) (cap : Nat) W, Below w0.heap.size w0 W → r2.b.length ≤ cap → BytesIn w0 a r2.b → Calls Tryz.prog 121 #[bz r2 a cap, .int .i64 256] W (iO r3 (.string (mkS v3)) w0 W)) := fun a cap W h hc hb => by have := kR r2 a cap 256 w0 W h (by omega) hc (by omega) (by omega) hb; rw [g3] at this; exact this
 have C4 : Hid (∀ (a : Option Addr) (cap : Nat) W, Below w0.heap.size w0 W → r3.b.length ≤ cap → BytesIn w0 a r3.b → Calls Tryz.prog 121 #[bz r3 a cap, .int .i64 1024] W (iO r4 (.string (mkS v4)) w0 W)) := fun a cap W h hc hb => by have := kR r3 a cap 1024 w0 W h (by omega) hc (by omega) (by omega) hb; rw [g4] at this; exact this
 have C5 : Hid (∀ (a : Option Addr) (cap : Nat) W, Below w0.heap.size w0 W → r4.b.length ≤ cap → BytesIn w0 a r4.b → Calls Tryz.prog 122 #[bz r4 a cap, .int .i64 1099511627776] W (iO r5 (.int .i64 v5) w0 W)) := fun a cap W h hc hb => by have := Bh r4 a cap 1099511627776 w0 W h (by omega) hc (by omega) (by omega) hb; rw [g5] at this; exact this
 have C6 : Hid (∀ (a : Option Addr) (cap : Nat) W, Below w0.heap.size w0 W → r5.b.length ≤ cap → BytesIn w0 a r5.b → Calls Tryz.prog 27 #[bz r5 a cap, .int .u64 1099511627776] W (iO r6 (.int .u64 v6) w0 W)) := fun a cap W h hc hb => by have := dG r5 a cap 1099511627776 w0 W h (by omega) hc (by omega) hb; rw [g6] at this; exact this
 have C7 : Hid (∀ (a : Option Addr) (cap : Nat) W, Below w0.heap.size w0 W → r6.b.length ≤ cap → BytesIn w0 a r6.b → Calls Tryz.prog 27 #[bz r6 a cap, .int .u64 1099511627776] W (iO r7 (.int .u64 v7) w0 W)) := fun a cap W h hc hb => by have := dG r6 a cap 1099511627776 w0 W h (by omega) hc (by omega) hb; rw [g7] at this; exact this
 have hl7 : r7.b.length ≤ 1073741824 := by omega
 have hv5 : -1099511627776 ≤ v5 ∧ v5 ≤ 1099511627776 := by omega
 have hv6 : v6 ≤ 1099511627776 := by omega
 have hv7 : v7 ≤ 1099511627776 := by omega
 clear g1 f1 g2 f2 g3 f3 g4 f4 g5 f5 g6 f6 g7 f7
 go_enter Tryz.func77, Tryz.ntmps77
 go_upto_region 2 with fail
 refine au (fun W hW => ?_)
 have hbt : Below w.heap.size w W := by rw [hW.out]; go_grown
 have hB : RdBlk W w.heap.size r a cap := by
  rw [hW.out]; unfold RdBlk; rw [Below.heap_alloc _ _ _ (by simp <;> omega), Below.heap_alloc _ _ _ (by simp <;> omega), Below.heap_alloc _ _ _ (by simp)]; exact heap_alloc_last w _
 have hE : EvBlk W (w.heap.size + 1) e ae ce := by
  rw [hW.out]; unfold EvBlk; rw [Below.heap_alloc _ _ _ (by simp <;> omega), Below.heap_alloc _ _ _ (by simp <;> omega)]
  have := heap_alloc_last (w.alloc (Obj.cells (bi r a cap) 69)) (Obj.cells (ag e ae ce).toArray 64)
  rw [show (w.alloc (Obj.cells (bi r a cap) 69)).heap.size = w.heap.size + 1 by simp] at this
  exact this
 have hZ : W.heap[w.heap.size + 2]? = some (.cells aY 69 (0, 0)) := by
  rw [hW.out]; rw [Below.heap_alloc _ _ _ (by simp <;> omega)]
  have := heap_alloc_last ((w.alloc (Obj.cells (bi r a cap) 69)).alloc (Obj.cells (ag e ae ce).toArray 64)) (Obj.cells aY 69)
  rw [show ((w.alloc (Obj.cells (bi r a cap) 69)).alloc (Obj.cells (ag e ae ce).toArray 64)).heap.size = w.heap.size + 2 by simp] at this
  exact this
 have hD : EvBlk W (w.heap.size + 3) ev0 none 0 := by
  rw [hW.out]
  have := heap_alloc_last (((w.alloc (Obj.cells (bi r a cap) 69)).alloc (Obj.cells (ag e ae ce).toArray 64)).alloc (Obj.cells aY 69)) (Obj.cells (ag ev0 none 0).toArray 64)
  rw [show (((w.alloc (Obj.cells (bi r a cap) 69)).alloc (Obj.cells (ag e ae ce).toArray 64)).alloc (Obj.cells aY 69)).heap.size = w.heap.size + 3 by simp] at this
  exact this
 have h0W := h0.trans (hbt.mono h0.size)
 have hrg := hB.range
 have hlw := hD.lt
 clear hW hB
 have D1 := Lib.hid (fun W h => C1.out a cap W h hc hby)
 go_upto_region 3 with (first
  | ((with_reducible refine ak 69 _ w.heap.size 0 [.slice a r.b.length cap, .int .i64 r.e] (bz r a cap) rfl _ Tryz.underlying69 rfl (by kernel_rfl) hrg ?_ rfl ?_); exact rfl)
  | (go_at_call 121; (with_reducible refine (D1.out _ h0W).mono ?_); rintro x w1 ⟨a1, c1, rfl, hin1, hc1, hb1⟩)
  | (refine aN 69 _ _ _ #[.slice a1 r1.b.length c1, .int .i64 r1.e] rfl rfl (by kernel_rfl) rfl (by kernel_rfl) ?_))
 refine au (fun V1 hV => ?_)
 have hX1 : RdBlk V1 w1.heap.size r1 a1 c1 := by rw [hV.out]; exact RdBlk.new w1 r1 a1 c1
 have hbv : Below W.heap.size W V1 := by rw [hV.out]; exact hb1.alloc hb1.size _
 replace h0W := h0W.trans (hbv.mono h0W.size)
 have hlo1 := Nat.lt_of_lt_of_le hlw hb1.size
 replace hlw := Nat.lt_of_lt_of_le hlw hbv.size
 clear hV hb1 hrg
 have hrg := hX1.range
 replace hZ := (hbv.block _ (lt_of_block hZ)).trans hZ
 replace hD := hD.below hbv
 replace hE := hE.below hbv
 replace hbt := below2 hbt hbv
 clear hbv
 obtain ⟨W, hWe⟩ : ∃ W, W = V1 := ⟨_, rfl⟩
 subst hWe
 have D2 := Lib.hid (fun W h => C2.out a1 c1 W h hc1 hin1)
 go_upto_region 4 with (first
  | ((with_reducible refine ak 69 _ w1.heap.size 0 [.slice a1 r1.b.length c1, .int .i64 r1.e] (bz r1 a1 c1) rfl _ Tryz.underlying69 rfl (by kernel_rfl) hrg ?_ rfl ?_); exact rfl)
  | (go_at_call 121; (with_reducible refine (D2.out _ h0W).mono ?_); rintro x w2 ⟨a2, c2, rfl, hin2, hc2, hb2⟩)
  | (refine aN 69 _ _ _ #[.slice a2 r2.b.length c2, .int .i64 r2.e] rfl rfl (by kernel_rfl) rfl (by kernel_rfl) ?_))
 refine au (fun V2 hV => ?_)
 have hX2 : RdBlk V2 w2.heap.size r2 a2 c2 := by rw [hV.out]; exact RdBlk.new w2 r2 a2 c2
 have hbv : Below W.heap.size W V2 := by rw [hV.out]; exact hb2.alloc hb2.size _
 replace h0W := h0W.trans (hbv.mono h0W.size)
 have hlo2 := Nat.lt_of_lt_of_le hlw hb2.size
 replace hlw := Nat.lt_of_lt_of_le hlw hbv.size
 clear hV hb2 hrg
 have hrg := hX2.range
 replace hZ := (hbv.block _ (lt_of_block hZ)).trans hZ
 replace hD := hD.below hbv
 replace hE := hE.below hbv
 replace hbt := below2 hbt hbv
 clear hbv
 obtain ⟨W, hWe⟩ : ∃ W, W = V2 := ⟨_, rfl⟩
 subst hWe
 have D3 := Lib.hid (fun W h => C3.out a2 c2 W h hc2 hin2)
 go_upto_region 5 with (first
  | ((with_reducible refine ak 69 _ w2.heap.size 0 [.slice a2 r2.b.length c2, .int .i64 r2.e] (bz r2 a2 c2) rfl _ Tryz.underlying69 rfl (by kernel_rfl) hrg ?_ rfl ?_); exact rfl)
  | (go_at_call 121; (with_reducible refine (D3.out _ h0W).mono ?_); rintro x w3 ⟨a3, c3, rfl, nX, hc3, hb3⟩)
  | (refine aN 69 _ _ _ #[.slice a3 r3.b.length c3, .int .i64 r3.e] rfl rfl (by kernel_rfl) rfl (by kernel_rfl) ?_))
 refine au (fun V3 hV => ?_)
 have hX3 : RdBlk V3 w3.heap.size r3 a3 c3 := by rw [hV.out]; exact RdBlk.new w3 r3 a3 c3
 have hbv : Below W.heap.size W V3 := by rw [hV.out]; exact hb3.alloc hb3.size _
 replace h0W := h0W.trans (hbv.mono h0W.size)
 have hlo3 := Nat.lt_of_lt_of_le hlw hb3.size
 replace hlw := Nat.lt_of_lt_of_le hlw hbv.size
 clear hV hb3 hrg
 have hrg := hX3.range
 replace hZ := (hbv.block _ (lt_of_block hZ)).trans hZ
 replace hD := hD.below hbv
 replace hE := hE.below hbv
 replace hbt := below2 hbt hbv
 clear hbv
 obtain ⟨W, hWe⟩ : ∃ W, W = V3 := ⟨_, rfl⟩
 subst hWe
 have D4 := Lib.hid (fun W h => C4.out a3 c3 W h hc3 nX)
 go_upto_region 6 with (first
  | ((with_reducible refine ak 69 _ w3.heap.size 0 [.slice a3 r3.b.length c3, .int .i64 r3.e] (bz r3 a3 c3) rfl _ Tryz.underlying69 rfl (by kernel_rfl) hrg ?_ rfl ?_); exact rfl)
  | (go_at_call 121; (with_reducible refine (D4.out _ h0W).mono ?_); rintro x w4 ⟨a4, c4, rfl, BQ, hc4, hb4⟩)
  | (refine aN 69 _ _ _ #[.slice a4 r4.b.length c4, .int .i64 r4.e] rfl rfl (by kernel_rfl) rfl (by kernel_rfl) ?_))
 refine au (fun V4 hV => ?_)
 have hX4 : RdBlk V4 w4.heap.size r4 a4 c4 := by rw [hV.out]; exact RdBlk.new w4 r4 a4 c4
 have hbv : Below W.heap.size W V4 := by rw [hV.out]; exact hb4.alloc hb4.size _
 replace h0W := h0W.trans (hbv.mono h0W.size)
 have P5 := Nat.lt_of_lt_of_le hlw hb4.size
 replace hlw := Nat.lt_of_lt_of_le hlw hbv.size
 clear hV hb4 hrg
 have hrg := hX4.range
 replace hZ := (hbv.block _ (lt_of_block hZ)).trans hZ
 replace hD := hD.below hbv
 replace hE := hE.below hbv
 replace hbt := below2 hbt hbv
 clear hbv
 obtain ⟨W, hWe⟩ : ∃ W, W = V4 := ⟨_, rfl⟩
 subst hWe
 have D5 := Lib.hid (fun W h => C5.out a4 c4 W h hc4 BQ)
 go_upto_region 7 with (first
  | ((with_reducible refine ak 69 _ w4.heap.size 0 [.slice a4 r4.b.length c4, .int .i64 r4.e] (bz r4 a4 c4) rfl _ Tryz.underlying69 rfl (by kernel_rfl) hrg ?_ rfl ?_); exact rfl)
  | (go_at_call 122; (with_reducible refine (D5.out _ h0W).mono ?_); rintro x w5 ⟨a5, c5, rfl, zB, hc5, hb5⟩)
  | (refine aN 69 _ _ _ #[.slice a5 r5.b.length c5, .int .i64 r5.e] rfl rfl (by kernel_rfl) rfl (by kernel_rfl) ?_))
 refine au (fun V5 hV => ?_)
 have hX5 : RdBlk V5 w5.heap.size r5 a5 c5 := by rw [hV.out]; exact RdBlk.new w5 r5 a5 c5
 have hbv : Below W.heap.size W V5 := by rw [hV.out]; exact hb5.alloc hb5.size _
 replace h0W := h0W.trans (hbv.mono h0W.size)
 have QH := Nat.lt_of_lt_of_le hlw hb5.size
 replace hlw := Nat.lt_of_lt_of_le hlw hbv.size
 clear hV hb5 hrg
 have hrg := hX5.range
 replace hZ := (hbv.block _ (lt_of_block hZ)).trans hZ
 replace hD := hD.below hbv
 replace hE := hE.below hbv
 replace hbt := below2 hbt hbv
 clear hbv
 obtain ⟨W, hWe⟩ : ∃ W, W = V5 := ⟨_, rfl⟩
 subst hWe
 have D6 := Lib.hid (fun W h => C6.out a5 c5 W h hc5 zB)
 go_upto_region 8 with (first
  | ((with_reducible refine ak 69 _ w5.heap.size 0 [.slice a5 r5.b.length c5, .int .i64 r5.e] (bz r5 a5 c5) rfl _ Tryz.underlying69 rfl (by kernel_rfl) hrg ?_ rfl ?_); exact rfl)
  | (go_at_call 27; (with_reducible refine (D6.out _ h0W).mono ?_); rintro x w6 ⟨a6, c6, rfl, NP, hc6, hb6⟩)
  | (refine aN 69 _ _ _ #[.slice a6 r6.b.length c6, .int .i64 r6.e] rfl rfl (by kernel_rfl) rfl (by kernel_rfl) ?_))
 refine au (fun V6 hV => ?_)
 have hX6 : RdBlk V6 w6.heap.size r6 a6 c6 := by rw [hV.out]; exact RdBlk.new w6 r6 a6 c6
 have hbv : Below W.heap.size W V6 := by rw [hV.out]; exact hb6.alloc hb6.size _
 replace h0W := h0W.trans (hbv.mono h0W.size)
 have QG := Nat.lt_of_lt_of_le hlw hb6.size
 replace hlw := Nat.lt_of_lt_of_le hlw hbv.size
 clear hV hb6 hrg
 have hrg := hX6.range
 replace hZ := (hbv.block _ (lt_of_block hZ)).trans hZ
 replace hD := hD.below hbv
 replace hE := hE.below hbv
 replace hbt := below2 hbt hbv
 clear hbv
 obtain ⟨W, hWe⟩ : ∃ W, W = V6 := ⟨_, rfl⟩
 subst hWe
 have D7 := Lib.hid (fun W h => C7.out a6 c6 W h hc6 NP)
 go_upto_region 9 with (first
  | ((with_reducible refine ak 69 _ w6.heap.size 0 [.slice a6 r6.b.length c6, .int .i64 r6.e] (bz r6 a6 c6) rfl _ Tryz.underlying69 rfl (by kernel_rfl) hrg ?_ rfl ?_); exact rfl)
  | (go_at_call 27; (with_reducible refine (D7.out _ h0W).mono ?_); rintro x w7 ⟨a7, c7, rfl, NM, hc7, hb7⟩)
  | (refine aN 69 _ _ _ #[.slice a7 r7.b.length c7, .int .i64 r7.e] rfl rfl (by kernel_rfl) rfl (by kernel_rfl) ?_))
 refine au (fun V7 hV => ?_)
 have hX7 : RdBlk V7 w7.heap.size r7 a7 c7 := by rw [hV.out]; exact RdBlk.new w7 r7 a7 c7
 have hbv : Below W.heap.size W V7 := by rw [hV.out]; exact hb7.alloc hb7.size _
 replace h0W := h0W.trans (hbv.mono h0W.size)
 have PZ := Nat.lt_of_lt_of_le hlw hb7.size
 replace hlw := Nat.lt_of_lt_of_le hlw hbv.size
 clear hV hb7 hrg
 have hrg := hX7.range
 replace hZ := (hbv.block _ (lt_of_block hZ)).trans hZ
 replace hD := hD.below hbv
 replace hE := hE.below hbv
 replace hbt := below2 hbt hbv
 clear hbv
 obtain ⟨W, hWe⟩ : ∃ W, W = V7 := ⟨_, rfl⟩
 subst hWe
 clear C1 D1 C2 D2 C3 D3 C4 D4 C5 D5 C6 D6 C7 D7
 go_upto_region 10 with (refine wpList_store_mid rfl 60 _ _ rfl (w.heap.size + 1) 7 #[.string (mkS v1), .string (mkS v2), .string (mkS v3)] rfl rfl (hE.there 7 3 (by omega)) (by kernel_rfl) (by kernel_rfl) ?_)
 refine au (fun V hV => ?_)
 have hE2 := hE.setKey (mkS v1) (mkS v2) (mkS v3)
 have hlt := hE.lt
 have hk : ∀ k, k ≠ w.heap.size + 1 → V.heap[k]? = W.heap[k]? := fun k hk => by rw [hV.out]; exact heap_setCells_other _ _ _ _ _ (fun h => hk h.symm)
 have nN : Below w.heap.size w V := by rw [hV.out]; exact below_setCells hbt (by omega) _ _
 rw [← hV.out] at hE2
 have hrz : w.heap.size + 3 < w7.heap.size := PZ
 have hX : RdBlk V w7.heap.size r7 a7 c7 := (hk _ (by omega)).trans hX7
 have hZ2 := (hk _ (by omega)).trans hZ
 have hD2 : EvBlk V (w.heap.size + 3) ev0 none 0 := (hk _ (by omega)).trans hD
 clear hV hk hE hbt hX7 hZ hD hrg h0W
 have e10 := hE2.cell 10 _ rfl
 have e15 := hE2.cell 15 _ rfl
 have e16 := hE2.cell 16 _ rfl
 have e17 := hE2.cell 17 _ rfl
 rw [Nat.zero_add] at e10 e15 e16 e17
 have z10 := hE2.free 10
 have z15 := hE2.free 15
 have z16 := hE2.free 16
 have z17 := hE2.free 17
 go_upto_region 14 with fail
 refine au (fun U hU => ?_)
 have hE3 := (((hE2.set10 (mkS v4)).set15 v5).set16 (v6 : Int)).set17 (v7 : Int)
 have hk : ∀ k, k ≠ w.heap.size + 1 → U.heap[k]? = V.heap[k]? := fun k hk => by
  rw [hU.out]
  exact (heap_setCell_other _ _ _ _ (fun h => hk h.symm)).trans ((heap_setCell_other _ _ _ _ (fun h => hk h.symm)).trans ((heap_setCell_other _ _ _ _ (fun h => hk h.symm)).trans (heap_setCell_other _ _ _ _ (fun h => hk h.symm))))
 have hbt : Below w.heap.size w U := by rw [hU.out]; exact (((nN.setCell (by simp only; omega) _).setCell (by simp only; omega) _).setCell (by simp only; omega) _).setCell (by simp only; omega) _
 rw [← hU.out] at hE3
 obtain ⟨ef, hef⟩ : ∃ ef : Ev, ef = { e with key := ⟨mkS v1, mkS v2, mkS v3⟩, ck := { e.ck with value := mkS v4, expiry := v5, creation := v6, access := v7 } } := ⟨_, rfl⟩
 have hE : EvBlk U (w.heap.size + 1) ef ae ce := by rw [hef]; exact hE3
 have HE2 : Hid (bW e r = ef) := by rw [Hid, HV2.out, hef]
 have hX7 : RdBlk U w7.heap.size r7 a7 c7 := (hk _ (by omega)).trans hX
 have hZ := (hk _ (by omega)).trans hZ2
 have hD : EvBlk U (w.heap.size + 3) ev0 none 0 := (hk _ (by omega)).trans hD2
 clear hU hk hE2 hE3 nN hX hZ2 hD2 hef e10 e15 e16 e17 z10 z15 z16 z17
 have hother : ∀ (W' : World) (g : Nat) (cs : Array Value) (b : Nat) (l : List Value), g ≠ b → W'.rangeAt b 0 l → (W'.setRow g cs).rangeAt b 0 l := fun W' g cs b l hne h j v hv => (World.cell?_of_block (aI _ _ _ _ (by simpa using hne))).trans (h j v hv)
 have hD4 : ∀ cs : Array Value, (U.drew.setRow (w.heap.size + 2) cs).heap[w.heap.size + 3]? = some (.cells (ag ev0 none 0).toArray 64 (0, 0)) := fun cs => (aI _ _ _ _ (by omega)).trans hD
 refine wp_region_noPanic ?_
 refine wp_region_held_drew (S := fun W' => W'.rangeAt (w.heap.size + 1) 0 (ag ef ae ce) ∧ W'.rangeAt w7.heap.size 0 [.slice a7 r7.b.length c7, .int .i64 r7.e]) (by kernel_rfl) ⟨hE.cell, hX7.range⟩ (fun hHeld => ?_)
 refine tH 0 80 rfl (yieldsIf_load_mid (by rfl) 69 _ rfl w7.heap.size 0 rfl [.slice a7 r7.b.length c7, .int .i64 r7.e] _ (fun _ h => h.2) Tryz.underlying69 rfl (by kernel_rfl)) ?_
 try simp only [pS]
 refine tH 1 81 rfl (yieldsIf_load_mid (by rfl) 64 _ rfl (w.heap.size + 1) 0 rfl (ag ef ae ce) _ (fun _ h => h.1) Tryz.underlying64 rfl (by kernel_rfl)) ?_
 try simp only [pS]
 refine wpAnyH_ready (rs := [2]) (by kernel_rfl) (by simp) ?_
 refine AllReadyH.cons rfl (fun K hK => ?_) AllReadyH.nil
 refine eX rfl 69 _ _ rfl (w.heap.size + 2) #[.slice a7 r7.b.length c7, .int .i64 r7.e] rfl rfl 69 aY hZ (by kernel_rfl) rfl (by kernel_rfl) ?_
 refine hK.out _ _ ?_ (fun hHeld => ?_)
 ·exact ⟨hother _ _ _ _ _ (by omega) hE.cell, hother _ _ _ _ _ (by omega) hX7.range⟩
 clear hK K
 try simp only [pS]
 refine wpAnyH_ready (rs := [3]) (by kernel_rfl) (by simp) ?_
 refine AllReadyH.cons rfl (fun K hK => ?_) AllReadyH.nil
 refine eX rfl 64 _ _ rfl (w.heap.size + 3) (ag ef ae ce).toArray rfl rfl 64 (ag ev0 none 0).toArray (hD4 _) (by kernel_rfl) rfl (by kernel_rfl) ?_
 refine hK.out _ _ ?_ (fun hHeld => ?_)
 ·exact ⟨hother _ _ _ _ _ (by omega) (hother _ _ _ _ _ (by omega) hE.cell), hother _ _ _ _ _ (by omega) (hother _ _ _ _ _ (by omega) hX7.range)⟩
 clear hK K
 try simp only [pS]
 refine wpAnyH_done (by kernel_rfl) ?_ _
 refine NoPanic.normal ?_
 go_wp2
 have hrows := eP (w := U.drew) #[.slice a7 r7.b.length c7, .int .i64 r7.e] (ag ef ae ce).toArray (show w.heap.size + 2 ≠ w.heap.size + 3 by omega) hZ hD
 refine dU 4 5 69 64 69 64 (w.heap.size + 2) (w.heap.size + 3) _ (ag ef ae ce).toArray _ _ rfl rfl rfl hrows.1 hrows.2 Tryz.underlying69 rfl (by kernel_rfl) Tryz.underlying64 rfl (by kernel_rfl) rfl ?_
 rw [HV1.out, HE2.out]
 exact ⟨a7, c7, rfl, NM, hc7, below_setRow (below_setRow hbt.drew (by omega) _) (by omega) _⟩
end Go.Proofs.YtdlmbflhbecggaaGreat
