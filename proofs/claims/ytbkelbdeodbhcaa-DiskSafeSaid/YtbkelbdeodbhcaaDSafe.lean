/- The law DiskSafe. Conditions: none. -/
import Derived.Test.YtbkelbdeodbhcaaDReads
import Derived.Test.YtbkelbdeodbhcaaDIs
set_option linter.unusedSimpArgs false
set_option linter.unusedVariables false
set_option linter.unnecessarySimpa false
namespace Go.Proofs.Ytbkelbdeodbhcaa
open Go.RowKit

theorem clampK_zero (n : Int) : clampK n 0 = 0 := by unfold clampK; split <;> omega
/-- another crash changes nothing -/
theorem crash_again {S : DS} (h : DInv S) (x y : Ks) : (S.crash x).crash y = S.crash x := by
  unfold DS.crash
  simp only [List.map_map]
  congr 1
  refine List.map_congr_left fun f hf => ?_
  show crashF y (crashF x f) = crashF x f
  have hlen := crashF_len (h.ok f hf) x
  generalize crashF x f = g at hlen
  unfold crashF
  rw [hlen, Nat.sub_self, clampK_zero, Nat.add_zero, List.take_of_length_le (by omega)]

set_option maxRecDepth 100000 in
set_option maxHeartbeats 4000000 in
theorem lawSafe_any (al0 ax ay : Option Addr) (cl0 cx cy : Nat) (ls : List StepIt) (kx ky : Ks) (w : World) (hll : ls.length ≤ maxLen) (hcs : CellsIn w al0 (scs ls)) (hsi : ∀ s ∈ ls, StepIn w s)
    (hkx : CellsIn w ax (kcs kx)) (hky : CellsIn w ay (kcs ky)) (hox : KsOk kx) (hoy : KsOk ky) (hlx : kx.length ≤ maxLen) (hly : ky.length ≤ maxLen) :
    Calls Try.prog 4 #[.slice al0 ls.length cl0, .slice ax kx.length cx, .slice ay ky.length cy] w fun e w' => e = .returned (.bool true) ∧ Below w.heap.size w w' := by
  unfold maxLen at hlx hly
  have HA := Lib.hid awake30_any
  have HL : Hid (Calls Try.prog 6 #[.slice al0 ls.length cl0, .int .i64 40] w fun e w' => e = .returned (.bool (stsLight ls 40)) ∧ w = w') := Lib.hid (light_any al0 cl0 40 ls w hll (by decide) hcs)
  have HNW := Lib.hid (New_any w)
  by_cases h1 : stsLight ls 40 = true
  case neg =>
    rw [Bool.eq_false_iff.2 h1] at HL
    clear h1
    go_enter Try.func4, Try.ntmps4
    go_wp2_with (first
      | (go_at_call 6; (with_reducible refine HL.out.mono ?_); rintro e w1 ⟨rfl, rfl⟩)
      | (go_at_call 7; (with_reducible refine (HA.out _).mono ?_); rintro e w1 ⟨rfl, hb⟩))
    go_ret
    exact ⟨rfl, hb⟩
  case pos =>
  have hst : ∀ s ∈ ls, StepIn w s ∧ Light s := fun s hs => ⟨hsi s hs, by
    unfold stsLight at h1
    simp only [Bool.and_eq_true, List.all_eq_true] at h1
    exact stLight_iff (h1.2 s hs)⟩
  have h40 : ls.length ≤ 40 := by unfold stsLight at h1; simp only [Bool.and_eq_true, decide_eq_true_eq] at h1; exact h1.1
  rw [h1] at HL
  clear h1 hsi
  by_cases hx : kx.length ≤ 30
  case neg =>
    clear hst
    go_enter Try.func4, Try.ntmps4
    go_wp2_with (first
      | (go_at_call 6; (with_reducible refine HL.out.mono ?_); rintro e w1 ⟨rfl, rfl⟩)
      | (go_at_call 7; (with_reducible refine (HA.out _).mono ?_); rintro e w1 ⟨rfl, hb⟩))
    go_ret
    exact ⟨rfl, hb⟩
  case pos =>
  by_cases hy : ky.length ≤ 30
  case neg =>
    clear hst
    go_enter Try.func4, Try.ntmps4
    go_wp2_with (first
      | (go_at_call 6; (with_reducible refine HL.out.mono ?_); rintro e w1 ⟨rfl, rfl⟩)
      | (go_at_call 7; (with_reducible refine (HA.out _).mono ?_); rintro e w1 ⟨rfl, hb⟩))
    go_ret
    exact ⟨rfl, hb⟩
  case pos =>
  go_enter Try.func4, Try.ntmps4
  go_wp2_with (first
    | (go_at_call 6; (with_reducible refine HL.out.mono ?_); rintro e w1 ⟨rfl, rfl⟩)
    | (go_at_call 8; (with_reducible refine HNW.out.mono ?_); rintro e wN ⟨rfl, hN, hbN⟩))
  have hNz := hbN.size
  go_loopw [9] (fun i wr => ∃ (k : Nat) (D : DataW Unit) (a : Option Addr) (l : List RF) (cap : Nat), i = .int .i64 k ∧ k ≤ ls.length ∧ DkIn wr (fun q => w.heap.size ≤ q) (w.heap.size + 1) (stepsOf (ls.take k)) w.heap.size D ∧ B3 wr wN.heap.size 29 (.slice a l.length cap) (.int .i64 (stepsOf (ls.take k)).arm) (.bool (stepsOf (ls.take k)).down) ∧ RFsIn wr a l ∧ l.length ≤ cap ∧ rfsOf l = (stepsOf (ls.take k)).f ∧ Below w.heap.size w wr) (fun i _ => ls.length - (intOf i).toNat)
  case atStart => exact ⟨0, _, none, [], 0, rfl, Nat.zero_le _, hN.below ((Below.refl _ _).alloc (Nat.le_refl _) _), heap_last0 _ _, ⟨Or.inl rfl, fun g hg => (nomatch hg)⟩, Nat.le_refl _, rfl, hbN.alloc hbN.size _⟩
  case round =>
    obtain ⟨k, D, a, l, cap, rfl, hk, hDk, hB, hin, hlc, hl, hbw⟩ := hrel
    have hi := inv_steps (ls.take k)
    by_cases hlt : k < ls.length
    · obtain ⟨A, off, rfl, hr⟩ := scs_at hcs hlt
      have hsl := hst _ (List.getElem_mem hlt)
      have HS := Lib.hid (stepsOf_snoc hlt)
      have HLT := Lib.hid hlt
      have hA : A < w.heap.size := World.block_lt_of_cell? w _ (hr 0 _ rfl)
      have hrw := range_kept hr hbw
      generalize ls[k] = s at hsl HS hrw
      clear hr hlt
      generalize stepsOf (ls.take k) = S at *
      obtain ⟨S1, hS1⟩ : ∃ S1, S.step s = S1 := ⟨_, rfl⟩
      rw [hS1] at HS
      obtain ⟨E, hE⟩ : ∃ E, E = Ex wr (fun q => w.heap.size ≤ q) (w.heap.size + 1) w.heap.size D := ⟨_, rfl⟩
      have HEx : Hid (DkIn wr E (w.heap.size + 1) S w.heap.size D) := Lib.hid (by rw [hE]; exact hDk.exact)
      have HEp : Hid (∀ q, E q → w.heap.size ≤ q ∧ q < wr.heap.size ∧ NoByte wr q ∧ NoStr wr q) := Lib.hid fun q hq => by rw [hE] at hq; exact ⟨hq.1, hq.2.1, hDk.plain q hq⟩
      have HST : Hid (∀ X, Below wr.heap.size wr X → Calls Try.prog 9 #[.pointer (some ⟨w.heap.size + 1, 0, none⟩), rdkVal a l.length cap S.arm S.down, stVal s] X (RetStep E (w.heap.size + 1) w.heap.size S1 X)) := Lib.hid fun X hX => by
        rw [← hS1]
        exact step_any s (HEx.out.below hX) hi (fun q hq => ⟨Nat.lt_of_lt_of_le (HEp.out q hq).2.1 hX.size, plain_kept (HEp.out q hq).2.2 (hX.block q (HEp.out q hq).2.1)⟩) (hin.kept hX) hlc hl (hsl.1.kept (hbw.trans (hX.mono hbw.size))) hsl.2
      have hnz : ¬ E wN.heap.size := fun e => by rw [hE] at e; exact B3.notEx hB hDk e
      have hnA : ¬ E A := fun e => by have := (HEp.out A e).1; omega
      have hnw : ¬ E wr.heap.size := fun e => by have := (HEp.out _ e).2.1; omega
      clear hE hS1
      obtain ⟨z0, z1, z2, t0, t1, t2⟩ := hB.cells
      have hzlt := hB.lt
      obtain ⟨kd, n, nm, dst, bs, ab, cb, kl, al, cl⟩ := s
      have hAr : A < wr.heap.size := Nat.lt_of_lt_of_le hA hbw.size
      have zf0 := fun X (h : Below wr.heap.size wr X) => kept h z0
      have zf1 := fun X (h : Below wr.heap.size wr X) => kept h z1
      have zf2 := fun X (h : Below wr.heap.size wr X) => kept h z2
      have zf3 : ∀ X, Below wr.heap.size wr X → X.cell? ⟨A, off + k * 6, none⟩ = some (.int .i64 kd) := fun X h => kept h (hrw 0 _ rfl)
      have zf4 : ∀ X, Below wr.heap.size wr X → X.cell? ⟨A, off + k * 6 + 1, none⟩ = some (.int .i64 n) := fun X h => kept h (hrw 1 _ rfl)
      have zf5 : ∀ X, Below wr.heap.size wr X → X.cell? ⟨A, off + k * 6 + 2, none⟩ = some (.string nm) := fun X h => kept h (hrw 2 _ rfl)
      have zf6 : ∀ X, Below wr.heap.size wr X → X.cell? ⟨A, off + k * 6 + 3, none⟩ = some (.string dst) := fun X h => kept h (hrw 3 _ rfl)
      have zf7 : ∀ X, Below wr.heap.size wr X → X.cell? ⟨A, off + k * 6 + 4, none⟩ = some (.slice ab bs.length cb) := fun X h => kept h (hrw 4 _ rfl)
      have zf8 : ∀ X, Below wr.heap.size wr X → X.cell? ⟨A, off + k * 6 + 5, none⟩ = some (.slice al kl.length cl) := fun X h => kept h (hrw 5 _ rfl)
      have nx0 : ∀ o, (⟨wr.heap.size, o, none⟩ : Addr) ≠ ⟨wN.heap.size, 0, none⟩ := fun o e => by simp only [Addr.mk.injEq] at e; omega
      have nx1 : ∀ o, (⟨wr.heap.size, o, none⟩ : Addr) ≠ ⟨wN.heap.size, 1, none⟩ := fun o e => by simp only [Addr.mk.injEq] at e; omega
      have nx2 : ∀ o, (⟨wr.heap.size, o, none⟩ : Addr) ≠ ⟨wN.heap.size, 2, none⟩ := fun o e => by simp only [Addr.mk.injEq] at e; omega
      have nx3 : ∀ o, (⟨wr.heap.size, o, none⟩ : Addr) ≠ ⟨A, off + k * 6, none⟩ := fun o e => by simp only [Addr.mk.injEq] at e; omega
      have nx4 : ∀ o, (⟨wr.heap.size, o, none⟩ : Addr) ≠ ⟨A, off + k * 6 + 1, none⟩ := fun o e => by simp only [Addr.mk.injEq] at e; omega
      have nx5 : ∀ o, (⟨wr.heap.size, o, none⟩ : Addr) ≠ ⟨A, off + k * 6 + 2, none⟩ := fun o e => by simp only [Addr.mk.injEq] at e; omega
      have nx6 : ∀ o, (⟨wr.heap.size, o, none⟩ : Addr) ≠ ⟨A, off + k * 6 + 3, none⟩ := fun o e => by simp only [Addr.mk.injEq] at e; omega
      have nx7 : ∀ o, (⟨wr.heap.size, o, none⟩ : Addr) ≠ ⟨A, off + k * 6 + 4, none⟩ := fun o e => by simp only [Addr.mk.injEq] at e; omega
      have nx8 : ∀ o, (⟨wr.heap.size, o, none⟩ : Addr) ≠ ⟨A, off + k * 6 + 5, none⟩ := fun o e => by simp only [Addr.mk.injEq] at e; omega
      have hbd := hbw.drew
      have hlen : k < ls.length := HLT.out
      have HB := Lib.hid hB
      clear hrw hDk hB hin hl hlc hi hsl z0 z1 z2 t0 t1 t2 hlen
      go_upto_region 8 with fail
      go_region_held3 (fun W' => W'.cell? ⟨wN.heap.size, 0, none⟩ = some (.slice a l.length cap) ∧ W'.cell? ⟨wN.heap.size, 1, none⟩ = some (.int .i64 S.arm) ∧ W'.cell? ⟨wN.heap.size, 2, none⟩ = some (.bool S.down) ∧ W'.cell? ⟨A, off + k * 6, none⟩ = some (.int .i64 kd) ∧ W'.cell? ⟨A, off + k * 6 + 1, none⟩ = some (.int .i64 n) ∧ W'.cell? ⟨A, off + k * 6 + 2, none⟩ = some (.string nm) ∧ W'.cell? ⟨A, off + k * 6 + 3, none⟩ = some (.string dst) ∧ W'.cell? ⟨A, off + k * 6 + 4, none⟩ = some (.slice ab bs.length cb) ∧ W'.cell? ⟨A, off + k * 6 + 5, none⟩ = some (.slice al kl.length cl)) (first | exact ⟨zf0 _ (Below.refl _ _).drew, zf1 _ (Below.refl _ _).drew, zf2 _ (Below.refl _ _).drew, zf3 _ (Below.refl _ _).drew, zf4 _ (Below.refl _ _).drew, zf5 _ (Below.refl _ _).drew, zf6 _ (Below.refl _ _).drew, zf7 _ (Below.refl _ _).drew, zf8 _ (Below.refl _ _).drew⟩ | exact ⟨zf0 _ ((Below.refl _ _).alloc (Nat.le_refl _) _).drew, zf1 _ ((Below.refl _ _).alloc (Nat.le_refl _) _).drew, zf2 _ ((Below.refl _ _).alloc (Nat.le_refl _) _).drew, zf3 _ ((Below.refl _ _).alloc (Nat.le_refl _) _).drew, zf4 _ ((Below.refl _ _).alloc (Nat.le_refl _) _).drew, zf5 _ ((Below.refl _ _).alloc (Nat.le_refl _) _).drew, zf6 _ ((Below.refl _ _).alloc (Nat.le_refl _) _).drew, zf7 _ ((Below.refl _ _).alloc (Nat.le_refl _) _).drew, zf8 _ ((Below.refl _ _).alloc (Nat.le_refl _) _).drew⟩ | exact ⟨zk0, zk1, zk2, zk3, zk4, zk5, zk6, zk7, zk8⟩ | exact ⟨kept ((Below.refl _ _).alloc (Nat.le_refl _) _) zk0, kept ((Below.refl _ _).alloc (Nat.le_refl _) _) zk1, kept ((Below.refl _ _).alloc (Nat.le_refl _) _) zk2, kept ((Below.refl _ _).alloc (Nat.le_refl _) _) zk3, kept ((Below.refl _ _).alloc (Nat.le_refl _) _) zk4, kept ((Below.refl _ _).alloc (Nat.le_refl _) _) zk5, kept ((Below.refl _ _).alloc (Nat.le_refl _) _) zk6, kept ((Below.refl _ _).alloc (Nat.le_refl _) _) zk7, kept ((Below.refl _ _).alloc (Nat.le_refl _) _) zk8⟩ | exact ⟨setThree (nx0) zk0, setThree (nx1) zk1, setThree (nx2) zk2, setThree (nx3) zk3, setThree (nx4) zk4, setThree (nx5) zk5, setThree (nx6) zk6, setThree (nx7) zk7, setThree (nx8) zk8⟩ | go_keep)
        (first | (go_at_call 9; (with_reducible refine (HST.out _ (by first | exact (Below.refl _ _).drew | exact ((Below.refl _ _).alloc (Nat.le_refl _) _).drew)).mono ?_); rintro e w2 ⟨a1, l1, c1, ok, rfl, hin1, hc1, hl1, ⟨D1, hD1⟩, hf1⟩; have HL1 := Lib.hid hl1; clear hl1; (first | (have hXk : B3 w2 wr.heap.size 29 (.slice none 0 0) (.int .i64 0) (.bool false) := B3.fr (w := (wr.alloc (Obj.cells #[.slice none 0 0, .int .i64 0, .bool false] 29)).drew) (heap_last0 wr _) hf1 hnw; obtain ⟨u0, u1, u2, v0, v1, v2⟩ := hXk.cells) | skip); have zk0 := hf1.kept (zf0 _ (by first | exact (Below.refl _ _).drew | exact ((Below.refl _ _).alloc (Nat.le_refl _) _).drew)) hnz; have zk1 := hf1.kept (zf1 _ (by first | exact (Below.refl _ _).drew | exact ((Below.refl _ _).alloc (Nat.le_refl _) _).drew)) hnz; have zk2 := hf1.kept (zf2 _ (by first | exact (Below.refl _ _).drew | exact ((Below.refl _ _).alloc (Nat.le_refl _) _).drew)) hnz; have zk3 := hf1.kept (zf3 _ (by first | exact (Below.refl _ _).drew | exact ((Below.refl _ _).alloc (Nat.le_refl _) _).drew)) hnA; have zk4 := hf1.kept (zf4 _ (by first | exact (Below.refl _ _).drew | exact ((Below.refl _ _).alloc (Nat.le_refl _) _).drew)) hnA; have zk5 := hf1.kept (zf5 _ (by first | exact (Below.refl _ _).drew | exact ((Below.refl _ _).alloc (Nat.le_refl _) _).drew)) hnA; have zk6 := hf1.kept (zf6 _ (by first | exact (Below.refl _ _).drew | exact ((Below.refl _ _).alloc (Nat.le_refl _) _).drew)) hnA; have zk7 := hf1.kept (zf7 _ (by first | exact (Below.refl _ _).drew | exact ((Below.refl _ _).alloc (Nat.le_refl _) _).drew)) hnA; have zk8 := hf1.kept (zf8 _ (by first | exact (Below.refl _ _).drew | exact ((Below.refl _ _).alloc (Nat.le_refl _) _).drew)) hnA))
      · go_upto_region 9 with fail
        refine wp_name (fun W3 hW3 => ?_)
        have hbel : Below w2.heap.size w2 W3 := by rw [hW3.out]; exact (Below.refl _ _).alloc (Nat.le_refl _) _
        have hX3 : B3 W3 w2.heap.size 29 (.slice a1 l1.length c1) (.int .i64 S1.arm) (.bool S1.down) := by rw [hW3.out]; exact heap_last0 _ _
        have hB3 : B3 W3 wN.heap.size 29 (.slice a l.length cap) (.int .i64 S.arm) (.bool S.down) := ((show B3 wr.drew wN.heap.size 29 (.slice a l.length cap) (.int .i64 S.arm) (.bool S.down) from HB.out).fr hf1 hnz).below hbel
        have hin3 := hin1.kept hbel
        have hb2w : Below w.heap.size w w2 := hbd.trans (hf1.below (B := w.heap.size) hbd.size (fun q hq => (HEp.out q hq).1))
        have hb3 : Below w.heap.size w W3 := hb2w.trans (hbel.mono hb2w.size)
        have hD3 : DkIn W3 (fun q => w.heap.size ≤ q) (w.heap.size + 1) S1 w.heap.size D1 := (hD1.below hbel).mono fun q hq => by
          rcases hq with hq | hq
          · exact (HEp.out q hq).1
          · exact Nat.le_trans hbd.size hq
        clear hW3
        try clear hXk
        try clear u0 u1 u2 v0 v1 v2
        clear zk0 zk1 zk2 zk3 zk4 zk5 zk6 zk7 zk8 zf0 zf1 zf2 zf3 zf4 zf5 zf6 zf7 zf8 nx0 nx1 nx2 nx3 nx4 nx5 nx6 nx7 nx8
        obtain ⟨x0, x1, x2, y0, y1, y2⟩ := hX3.cells
        go_wp2_with (refine wpList_store_row rfl 29 _ _ rfl wN.heap.size #[.slice a1 l1.length c1, .int .i64 S1.arm, .bool S1.down] rfl rfl 29 _ hB3 (by kernel_rfl) rfl (by kernel_rfl) ?_)
        go_roundw
        case rel =>
          have hlen := HLT.out
          refine ⟨k + 1, D1, a1, l1, c1, by go_num, by omega, ?_, ?_, ?_, hc1, ?_, ?_⟩
          · rw [HS.out]; exact (DkIn.fr hD3.exact (fr_row _ _ _) (fun q hq => by subst hq; exact hB3.noByte ⟨trivial, trivial, trivial⟩) (fun q hq e => by subst e; exact B3.notEx hB3 hD3 hq)).mono fun q hq => hq.1
          · rw [HS.out]; exact hB3.row _ _ _
          · exact hin3.fr (fr_row _ _ _) (fun q hq => by subst hq; exact ⟨hB3.noByte ⟨trivial, trivial, trivial⟩, hB3.noStr ⟨trivial, trivial, trivial⟩⟩)
          · rw [HS.out]; exact HL1.out
          · exact below_row hb3 hNz _
        case measure => have hlen := HLT.out; simp [intOf] <;> omega
      · go_upto_region 9 with fail
        refine wp_name (fun W3 hW3 => ?_)
        have hset : Fr (isR wr.heap.size) w2 W3 := by rw [hW3.out]; exact ((fr_set _).again (fr_set _)).again (fr_set _)
        have hX3 : B3 W3 wr.heap.size 29 (.slice a1 l1.length c1) (.int .i64 S1.arm) (.bool S1.down) := by rw [hW3.out]; exact ((hXk.set0 _).set1 _).set2 _
        have hbal : Below wr.heap.size wr (wr.alloc (Obj.cells #[.slice none 0 0, .int .i64 0, .bool false] 29)).drew := ((Below.refl _ _).alloc (Nat.le_refl _) _).drew
        have hB3 : B3 W3 wN.heap.size 29 (.slice a l.length cap) (.int .i64 S.arm) (.bool S.down) := ((HB.out.below hbal).fr hf1 hnz).fr hset (fun e => by simp only [isR] at e; omega)
        have hin3 : RFsIn W3 a1 l1 := hin1.fr hset (fun q hq => by subst hq; exact ⟨hXk.noByte ⟨trivial, trivial, trivial⟩, hXk.noStr ⟨trivial, trivial, trivial⟩⟩)
        have hbalw : Below w.heap.size w (wr.alloc (Obj.cells #[.slice none 0 0, .int .i64 0, .bool false] 29)).drew := hbw.trans (hbal.mono hbw.size)
        have hb2w : Below w.heap.size w w2 := hbalw.trans (hf1.below (B := w.heap.size) hbalw.size (fun q hq => (HEp.out q hq).1))
        have hwrs : w.heap.size ≤ wr.heap.size := hbw.size
        have hb3 : Below w.heap.size w W3 := hb2w.trans (hset.below (B := w.heap.size) hb2w.size (fun q hq => by subst hq; exact hwrs))
        have hD3 : DkIn W3 (fun q => w.heap.size ≤ q) (w.heap.size + 1) S1 w.heap.size D1 := (DkIn.fr hD1 hset (fun q hq => by subst hq; exact hXk.noByte ⟨trivial, trivial, trivial⟩) (fun q hq e => by
          subst e
          rcases hq with hq | hq
          · exact hnw hq
          · have h2 : (wr.alloc (Obj.cells #[.slice none 0 0, .int .i64 0, .bool false] 29)).heap.size ≤ wr.heap.size := hq
            rw [show (wr.alloc (Obj.cells #[.slice none 0 0, .int .i64 0, .bool false] 29)).heap.size = wr.heap.size + 1 by simp] at h2
            omega)).mono fun q hq => by
          rcases hq with hq | hq
          · exact (HEp.out q hq).1
          · exact Nat.le_trans hbalw.size hq
        clear hW3
        try clear hXk
        try clear u0 u1 u2 v0 v1 v2
        clear zk0 zk1 zk2 zk3 zk4 zk5 zk6 zk7 zk8 zf0 zf1 zf2 zf3 zf4 zf5 zf6 zf7 zf8 nx0 nx1 nx2 nx3 nx4 nx5 nx6 nx7 nx8
        obtain ⟨x0, x1, x2, y0, y1, y2⟩ := hX3.cells
        go_wp2_with (refine wpList_store_row rfl 29 _ _ rfl wN.heap.size #[.slice a1 l1.length c1, .int .i64 S1.arm, .bool S1.down] rfl rfl 29 _ hB3 (by kernel_rfl) rfl (by kernel_rfl) ?_)
        go_roundw
        case rel =>
          have hlen := HLT.out
          refine ⟨k + 1, D1, a1, l1, c1, by go_num, by omega, ?_, ?_, ?_, hc1, ?_, ?_⟩
          · rw [HS.out]; exact (DkIn.fr hD3.exact (fr_row _ _ _) (fun q hq => by subst hq; exact hB3.noByte ⟨trivial, trivial, trivial⟩) (fun q hq e => by subst e; exact B3.notEx hB3 hD3 hq)).mono fun q hq => hq.1
          · rw [HS.out]; exact hB3.row _ _ _
          · exact hin3.fr (fr_row _ _ _) (fun q hq => by subst hq; exact ⟨hB3.noByte ⟨trivial, trivial, trivial⟩, hB3.noStr ⟨trivial, trivial, trivial⟩⟩)
          · rw [HS.out]; exact HL1.out
          · exact below_row hb3 hNz _
        case measure => have hlen := HLT.out; simp [intOf] <;> omega
    · have hke : k = ls.length := by omega
      subst hke
      rw [List.take_length] at hDk hB hl
      have hi := inv_steps ls
      generalize stepsOf ls = S at *
      have h8 := hi.len
      have hll2 : l.length = S.f.length := by have := congrArg List.length hl; rwa [List.length_map] at this
      have HLL := Lib.hid hll2
      have hl8 : l.length ≤ 8 := by omega
      have hkxr := hkx.kept hbw
      have hzr := hbw.size
      have HC1 := Lib.hid (Crash_any (ck := cx) kx hDk.exact hi (by omega) hox hkxr)
      have hkyr := hky.kept hbw
      have hbs := hi.ok
      have hDx := hDk.exact
      have hpl := hDk.plain
      have hnz := B3.notEx hB hDk
      clear HL HNW hcs hst hll2
      go_upto_region 11 with (go_at_call 17; (with_reducible refine HC1.out.mono ?_); rintro e wc ⟨rfl, hDc, hfc⟩)
      have hBc := hB.fr hfc hnz
      have hinc := hin.fr hfc hpl
      have hkyc := hkyr.frS hfc (fun q h => (hpl q h).2) (kcs_head ky)
      have hkxc := hkxr.frS hfc (fun q h => (hpl q h).2) (kcs_head kx)
      have hDc' : DkIn wc (fun q => w.heap.size ≤ q) (w.heap.size + 1) (S.crash kx) w.heap.size D := hDc.mono fun q hq => hq.1
      have hbc := hbw.trans (hfc.below hzr fun q hq => hq.1)
      have hzc := hbc.size
      have hic := hi.crash kx
      have HCA := Lib.hid (crash_again hi kx)
      clear HC1 hfc hDx hpl hnz hDc hDk hB hin hkxr hkyr hbw hzr
      obtain ⟨iu, hiu, hzu0, hzu1, hzu2⟩ := info_parts Try.infoByte
      go_wp2
      go_loopw [12] (fun i wr => ∃ k : Nat, i = .int .i64 k ∧ k ≤ l.length ∧ Below wc.heap.size wc wr) (fun i _ => l.length - (intOf i).toNat)
      case atStart => exact ⟨0, rfl, Nat.zero_le _, Below.refl _ _⟩
      case round =>
        obtain ⟨k, rfl, hk, hbr⟩ := hrel
        have hBr := hBc.below hbr
        obtain ⟨z0, z1, z2, t0, t1, t2⟩ := hBr.cells
        by_cases hlt : k < l.length
        · have hks : k < S.f.length := by rw [← HLL.out]; exact hlt
          have hfk : S.f[k] = l[k].f := by simp only [← hl, List.getElem_map]
          obtain ⟨A, off, rfl, hra, hgo⟩ := (hinc.kept hbr).at hlt
          have c0 := hra k hlt 0 _ rfl
          have c1 := hra k hlt 1 _ rfl
          have c2 := hra k hlt 2 _ rfl
          rw [Nat.add_zero] at c0
          have hks' : k < (S.crash kx).f.length := by show k < (S.f.map (crashF kx)).length; rw [List.length_map]; exact hks
          have hfk' : (S.crash kx).f[k] = crashF kx l[k].f := by
            rw [← hfk]
            exact List.getElem_map ..
          have hgt : getF (S.crash kx).f l[k].f.name = some (crashF kx l[k].f) := by
            have := crashed_same hic.srt hks'
            rw [hfk'] at this
            exact this
          have hokf : FOk l[k].f := by rw [← hfk]; exact hbs _ (List.getElem_mem hks)
          have hcl := crashF_len hokf kx
          have hsl := hokf.safe
          have hcs := clampK_le (keepOf kx l[k].f.name) (l[k].f.b.length - l[k].f.safe)
          obtain ⟨g, hg⟩ : ∃ g, crashF kx l[k].f = g := ⟨_, rfl⟩
          have hgs : l[k].f.safe ≤ g.b.length ∧ g.b.length ≤ l[k].f.b.length ∧ g.b = l[k].f.b.take g.b.length := by
            rw [hg] at hcl
            rw [hcl]
            subst hg
            refine ⟨?_, ?_, rfl⟩
            · show l[k].f.safe ≤ l[k].f.safe + _; omega
            · show l[k].f.safe + clampK (keepOf kx l[k].f.name) (l[k].f.b.length - l[k].f.safe) ≤ _; omega
          rw [hg] at hgt
          have HLT := Lib.hid hlt
          have hHB : Hid (B3 wr wN.heap.size 29 (.slice (some ⟨A, off, none⟩) l.length cap) (.int .i64 S.arm) (.bool S.down)) := Lib.hid hBr
          clear hra hfk hfk' hg hcl hcs hsl hBr
          generalize l[k] = x at c0 c1 c2 hgt hokf hgo hgs
          obtain ⟨f, ag, cg⟩ := x
          simp only at c0 c1 c2 hgt hokf hgs
          have hns : f.name.size ≤ maxLen := by have := nameOk_size hokf.name; unfold maxLen; omega
          have hfl := hokf.len
          obtain ⟨hg1, hg2, hg3⟩ := hgs
          have hcgf : f.b.length ≤ cg := hgo.cap
          have HRD := Lib.hid (fun (X : World) (h : DkIn X (fun q => w.heap.size ≤ q) (w.heap.size + 1) (S.crash kx) w.heap.size D) => Read_yes (f := g) hns h hokf.name hgt rfl (by omega))
          have HG3 := Lib.hid hg3
          clear hgt hlt hks hks' hg3
          go_upto_region 15 with fail
          refine wp_name (fun Wf hWf => ?_)
          have hX : B3 Wf wr.heap.size 46 (.string f.name) (.slice ag f.b.length cg) (.int .i64 f.safe) := by rw [hWf.out]; exact heap_last0 wr _
          have hbf : Below wr.heap.size wr Wf := by rw [hWf.out]; exact (Below.refl _ _).alloc (Nat.le_refl _) _
          have hDf := (hDc'.below hbr).below hbf
          have hgf := hgo.bytes.kept hbf
          have hbrf := hbr.trans (hbf.mono hbr.size)
          have hBf := hHB.out.below hbf
          clear hWf c0 c1 c2 z0 z1 z2 t0 t1 t2 hHB
          obtain ⟨x0, x1, x2, y0, y1, y2⟩ := hX.cells
          go_upto_region 16 with (go_at_call 10; (with_reducible refine (HRD.out _ hDf).mono ?_); rintro e w3 ⟨v, rfl, hown3, hb3⟩; obtain ⟨a3, k3, rfl, hin3, hk3⟩ := own_bytesIn hown3)
          have hX3 := hX.below hb3
          have hgg3 := hgf.kept hb3
          have hbr3 := hbrf.trans (hb3.mono hbrf.size)
          have HSB := Lib.hid (rSameBytes_any a3 ag k3 cg g.b (f.b.take g.b.length) w3 (by omega) (by rw [List.length_take]; omega) hin3 (hgg3.take _))
          rw [List.length_take, Nat.min_eq_left hg2, decide_eq_true HG3.out] at HSB
          have hcut : ∀ X, (Instr.sliceAt 32 (.slice ag f.b.length cg) none (some (.int .i64 (g.b.length : Nat))) none).run Try.prog X = .ok (.slice ag g.b.length cg) X := fun X => run_cut_hi X _ _ iu ag f.b.length cg .i64 g.b.length Try.underlying32 hiu (by omega)
          clear x0 x1 x2 y0 y1 y2 hX hgf hown3 hDf HG3 hBf
          obtain ⟨x0, x1, x2, y0, y1, y2⟩ := hX3.cells
          have hkl : k < l.length := HLT.out
          go_wp2_with (first
            | (refine wpList_of_exec rfl _ (exec_slice _ _ _ _ _ rfl _ (hcut _)) ?_)
            | (go_at_call 16; (with_reducible refine HSB.out.mono ?_); rintro e w4 ⟨rfl, hb4⟩))
          go_roundw
          case rel => exact ⟨k + 1, by go_num, by omega, hbr3.trans (hb4.mono hbr3.size)⟩
          case measure => simp [intOf] <;> omega
        · have hDr := hDc'.below hbr
          have hDx := hDr.exact
          have HCP := Lib.hid (Copy_any hDr hic)
          have hBr' := Lib.hid hBr
          have hbw2 := hbc.trans (hbr.mono hzc)
          clear hBr
          go_upto_region 19 with (go_at_call 18; (with_reducible refine HCP.out.mono ?_); rintro e w5 ⟨rfl, ⟨D5, hDo⟩, hb5⟩)
          clear z0 z1 z2 t0 t1 t2
          have hDx5 := hDx.below hb5
          have hpl := fun q hq => plain_kept (hDr.plain q hq) (hb5.block q hq.2.1)
          have HC2 := Lib.hid (Crash_any (ck := cy) ky hDx5 hic (by omega) hoy ((hkyc.kept hbr).kept hb5))
          rw [HCA.out] at HC2
          have hnz := B3.notEx hBr'.out hDr
          have hzr := hbw2.size
          go_upto_region 20 with (go_at_call 17; (with_reducible refine HC2.out.mono ?_); rintro e w6 ⟨rfl, hD6, hf6⟩)
          have hB6 := (hBr'.out.below hb5).fr hf6 hnz
          have hin6 := ((hinc.kept hbr).kept hb5).fr hf6 hpl
          have hkx6 := ((hkxc.kept hbr).kept hb5).frS hf6 (fun q h => (hpl q h).2) (kcs_head kx)
          have hDo6 := hDo.fr hf6 (fun q h => (hpl q h).1) (fun q (h : wr.heap.size ≤ q) g => by have := g.2.1; omega)
          have hbw6 := (hbw2.trans (hb5.mono hzr)).trans (hf6.below (Nat.le_trans hzr hb5.size) fun q hq => hq.1)
          have HLC := Lib.hid (fun (X : World) (hX : Below w6.heap.size w6 X) => lawCrash_any a ax cap cx S.arm S.down l kx X (by omega) (by omega) (fun g hg => by
            have hm : g.f ∈ S.f := by rw [← hl]; exact List.mem_map.2 ⟨g, hg, rfl⟩
            have := hbs _ hm
            exact ⟨this.safe, Nat.le_trans this.len (by decide)⟩) (hin6.kept hX) (hkx6.kept hX))
          rw [hl] at HLC
          have HI1 : Hid (∀ (X : World) (a' : Option Addr) (l' : List RF) (c' : Nat), Below w6.heap.size w6 X → RFsIn X a' l' → rfsOf l' = S.f.map (crashF kx) → Calls Try.prog 19 #[.pointer (some ⟨w.heap.size + 1, 0, none⟩), rdkVal a' l'.length c' 0 false] X fun e w' => e = .returned (.bool true) ∧ Below X.heap.size X w') :=
            Lib.hid fun X a' l' c' hX hin' hl' => Is_any (S := S.crash kx) (hD6.below hX) hic hin' hl' rfl
          have HI2 : Hid (∀ (X : World) (a' : Option Addr) (l' : List RF) (c' : Nat), Below w6.heap.size w6 X → RFsIn X a' l' → rfsOf l' = S.f.map (crashF kx) → Calls Try.prog 19 #[.pointer (some ⟨wr.heap.size + 1, 0, none⟩), rdkVal a' l'.length c' 0 false] X fun e w' => e = .returned (.bool true) ∧ Below X.heap.size X w') :=
            Lib.hid fun X a' l' c' hX hin' hl' => Is_any (S := S.crash kx) (hDo6.below hX) hic hin' hl' rfl
          have hz6 := hbw6.size
          clear hDx5 hpl HC2 HCP hDx hDr hDc' hinc hkxc hkyc hDo hbr hD6 hDo6 hin6 hkx6 hBr' hBc hnz hf6
          obtain ⟨z0, z1, z2, t0, t1, t2⟩ := hB6.cells
          have hX := Below.refl w6.heap.size w6
          go_wp2_with (first
            | (go_at_call 20; (with_reducible refine (HLC.out _ hX).mono ?_); rintro e w7 ⟨a7, l7, c7, rfl, hin7, hc7, hl7, hb7⟩; replace hX := hX.trans (hb7.mono hX.size); obtain ⟨z0, z1, z2, t0, t1, t2⟩ := (hB6.below hX).cells)
            | (go_at_call 19; (with_reducible refine (HI1.out _ _ _ _ hX hin7 hl7).mono ?_); rintro e w8 ⟨rfl, hb8⟩; replace hX := hX.trans (hb8.mono hX.size); obtain ⟨z0, z1, z2, t0, t1, t2⟩ := (hB6.below hX).cells)
            | (go_at_call 19; (with_reducible refine (HI2.out _ _ _ _ hX hin7 hl7).mono ?_); rintro e w8 ⟨rfl, hb8⟩; replace hX := hX.trans (hb8.mono hX.size); obtain ⟨z0, z1, z2, t0, t1, t2⟩ := (hB6.below hX).cells)
            | (go_at_call 7; (with_reducible refine (HA.out _).mono ?_); rintro e w9 ⟨rfl, hb9⟩; replace hX := hX.trans (hb9.mono hX.size)))
          go_ret
          exact ⟨rfl, hbw6.trans (hX.mono hz6)⟩
end Go.Proofs.Ytbkelbdeodbhcaa
