/- The law DiskReads. Conditions: none. -/
import Derived.Test.YtbkelbdeodbhcaaDLight
import Derived.Test.YtbkelbdeodbhcaaSameB
set_option linter.unusedSimpArgs false
set_option linter.unusedVariables false
set_option linter.unnecessarySimpa false
namespace Go.Proofs.Ytbkelbdeodbhcaa
open Go.RowKit

def stepsOf (ls : List StepIt) : DS := ls.foldl DS.step ⟨[], 0, false⟩
theorem stepsOf_snoc {ls : List StepIt} {k : Nat} (h : k < ls.length) : stepsOf (ls.take (k + 1)) = (stepsOf (ls.take k)).step ls[k] := by
  unfold stepsOf
  rw [List.take_succ_eq_append_getElem h, List.foldl_append]
  rfl
theorem inv_foldl : ∀ (ls : List StepIt) (S : DS), DInv S → DInv (ls.foldl DS.step S)
  | [], _, h => h
  | s :: r, S, h => inv_foldl r _ (h.step s)
theorem inv_steps (ls : List StepIt) : DInv (stepsOf ls) := inv_foldl ls _ DInv.new
theorem B3.notEx {w : World} {R : Nat} {t : TypeId} {a : Option Addr} {n c : Nat} {y : Value} {q : Bool} (hB : B3 w R t (.slice a n c) y (.bool q)) {F : Nat → Prop} {d b : Nat} {S : DS} {D : DataW Unit} (h : DkIn w F d S b D) : ¬ Ex w F d b D R := by
  rintro ⟨_, _, hk | hk | ⟨s, hk⟩⟩
  · subst hk
    have := (show w.heap[R]? = _ from hB).symm.trans h.cells
    simp at this
  · subst hk
    obtain ⟨es, cl, hb, _⟩ := h.own
    have := (show w.heap[R]? = _ from hB).symm.trans hb
    simp at this
  · cases hg : getF S.f s with
    | none => have := h.files.none s hg; rw [this] at hk; cases hk
    | some f =>
      obtain ⟨fb, _, h2, a', c', h3, _⟩ := h.files.some s f hg
      obtain rfl : fb = R := by have := h2.symm.trans hk; simp at this; omega
      have := (show w.heap[fb]? = _ from hB).symm.trans h3
      simp at this

theorem setThree {w : World} {B : Nat} {x y z v : Value} {p : Addr} (hn : ∀ o, (⟨B, o, none⟩ : Addr) ≠ p) (h : w.cell? p = some v) : (((w.setCell ⟨B, 0, none⟩ x).setCell ⟨B, 1, none⟩ y).setCell ⟨B, 2, none⟩ z).cell? p = some v := by
  rw [World.cell?_setCell_other _ _ _ _ (hn 2), World.cell?_setCell_other _ _ _ _ (hn 1), World.cell?_setCell_other _ _ _ _ (hn 0)]
  exact h
def moreB : Bytes := [109, 111, 114, 101]
abbrev otherC : Array Value := #[.int .u8 111, .int .u8 116, .int .u8 104, .int .u8 101, .int .u8 114, .int .u8 32, .int .u8 98, .int .u8 121, .int .u8 116, .int .u8 101, .int .u8 115, .int .u8 44, .int .u8 32, .int .u8 97, .int .u8 115, .int .u8 32, .int .u8 109, .int .u8 97, .int .u8 110, .int .u8 121, .int .u8 32, .int .u8 97, .int .u8 115, .int .u8 32, .int .u8 119, .int .u8 101, .int .u8 114, .int .u8 101, .int .u8 32, .int .u8 116, .int .u8 104, .int .u8 101, .int .u8 114, .int .u8 101]
def otherB : Bytes := [111, 116, 104, 101, 114, 32, 98, 121, 116, 101, 115, 44, 32, 97, 115, 32, 109, 97, 110, 121, 32, 97, 115, 32, 119, 101, 114, 101, 32, 116, 104, 101, 114, 101]
/-- a change of a disk that has all blocks from B on: what it leaves alone -/
theorem RetDk.law {B d b : Nat} {S' : DS} {D : DataW Unit} {X w' : World} {c : Int} {e : Ending} (h : RetDk (Ex X (fun q => B ≤ q) d b D) d b S' c X e w') (hB : B ≤ X.heap.size) :
    e = .returned (.int .i64 c) ∧ (∃ D', DkIn w' (fun q => B ≤ q) d S' b D') ∧ Fr (Ex X (fun q => B ≤ q) d b D) X w' ∧ Below B X w' := by
  obtain ⟨h1, ⟨D', h2⟩, h3⟩ := h
  exact ⟨h1, ⟨D', h2.mono fun k hk => by rcases hk with hk | hk; exact hk.1; exact Nat.le_trans hB hk⟩, h3, h3.below hB fun k hk => hk.1⟩
set_option maxRecDepth 100000 in
set_option maxHeartbeats 4000000 in
theorem lawReads_any (al0 : Option Addr) (cl0 : Nat) (ls : List StepIt) (name : ByteArray) (w : World) (hll : ls.length ≤ maxLen) (hcs : CellsIn w al0 (scs ls)) (hsi : ∀ s ∈ ls, StepIn w s) (hns : name.size ≤ maxLen) :
    Calls Try.prog 3 #[.slice al0 ls.length cl0, .string name] w fun e w' => e = .returned (.bool true) ∧ Below w.heap.size w w' := by
  have HA := Lib.hid awake30_any
  have HL : Hid (Calls Try.prog 6 #[.slice al0 ls.length cl0, .int .i64 40] w fun e w' => e = .returned (.bool (stsLight ls 40)) ∧ w = w') := Lib.hid (light_any al0 cl0 40 ls w hll (by decide) hcs)
  have HNW := Lib.hid (New_any w)
  by_cases hgo : stsLight ls 40 = true ∧ name.size ≤ 100
  case neg =>
    by_cases h1 : stsLight ls 40 = true
    · have h2 : 100 < name.size := by
        rcases Nat.lt_or_ge 100 name.size with h | h
        · exact h
        · exact absurd ⟨h1, h⟩ hgo
      rw [h1] at HL
      clear hgo
      go_enter Try.func3, Try.ntmps3
      go_wp2_with (first
        | (go_at_call 6; (with_reducible refine HL.out.mono ?_); rintro e w1 ⟨rfl, rfl⟩)
        | (go_at_call 7; (with_reducible refine (HA.out _).mono ?_); rintro e w1 ⟨rfl, hb⟩))
      go_ret
      exact ⟨rfl, hb⟩
    · rw [Bool.eq_false_iff.2 h1] at HL
      clear hgo
      go_enter Try.func3, Try.ntmps3
      go_wp2_with (first
        | (go_at_call 6; (with_reducible refine HL.out.mono ?_); rintro e w1 ⟨rfl, rfl⟩)
        | (go_at_call 7; (with_reducible refine (HA.out _).mono ?_); rintro e w1 ⟨rfl, hb⟩))
      go_ret
      exact ⟨rfl, hb⟩
  case pos =>
  obtain ⟨h1, h2⟩ := hgo
  rw [h1] at HL
  have hst : ∀ s ∈ ls, StepIn w s ∧ Light s := fun s hs => ⟨hsi s hs, by
    unfold stsLight at h1
    simp only [Bool.and_eq_true, List.all_eq_true] at h1
    exact stLight_iff (h1.2 s hs)⟩
  have h40 : ls.length ≤ 40 := by unfold stsLight at h1; simp only [Bool.and_eq_true, decide_eq_true_eq] at h1; exact h1.1
  clear h1 hsi
  go_enter Try.func3, Try.ntmps3
  go_wp2_with (first
    | (go_at_call 6; (with_reducible refine HL.out.mono ?_); rintro e w1 ⟨rfl, rfl⟩)
    | (go_at_call 8; (with_reducible refine HNW.out.mono ?_); rintro e wN ⟨rfl, hN, hbN⟩))
  have hNz := hbN.size
  go_loopw [7] (fun i wr => ∃ (k : Nat) (D : DataW Unit) (a : Option Addr) (l : List RF) (cap : Nat), i = .int .i64 k ∧ k ≤ ls.length ∧ DkIn wr (fun q => w.heap.size ≤ q) (w.heap.size + 1) (stepsOf (ls.take k)) w.heap.size D ∧ B3 wr wN.heap.size 29 (.slice a l.length cap) (.int .i64 (stepsOf (ls.take k)).arm) (.bool (stepsOf (ls.take k)).down) ∧ RFsIn wr a l ∧ l.length ≤ cap ∧ rfsOf l = (stepsOf (ls.take k)).f ∧ Below w.heap.size w wr) (fun i _ => ls.length - (intOf i).toNat)
  case atStart => exact ⟨0, _, none, [], 0, rfl, Nat.zero_le _, hN.below ((Below.refl _ _).alloc (Nat.le_refl _) _), heap_last0 _ _, ⟨Or.inl rfl, fun g hg => (nomatch hg)⟩, Nat.le_refl _, rfl, hbN.alloc hbN.size _⟩
  case round =>
    obtain ⟨k, D, a, l, cap, rfl, hk, hDk, hB, hin, hlc, hl, hbw⟩ := hrel
    have hi := inv_steps (ls.take k)
    by_cases hlt : k < ls.length
    · obtain ⟨A, off, rfl, hr⟩ := scs_at hcs hlt
      have hsl := hst _ (List.getElem_mem hlt)
      have HS := Lib.hid (stepsOf_snoc hlt)
      have HLT := Lib.hid hlt
      have hA : A < w.heap.size := World.block_lt_of_cell? w _ (hr 0 _ rfl)
      have hrw := range_kept hr hbw
      generalize ls[k] = s at hsl HS hrw
      clear hr hlt
      generalize stepsOf (ls.take k) = S at *
      obtain ⟨S1, hS1⟩ : ∃ S1, S.step s = S1 := ⟨_, rfl⟩
      rw [hS1] at HS
      obtain ⟨E, hE⟩ : ∃ E, E = Ex wr (fun q => w.heap.size ≤ q) (w.heap.size + 1) w.heap.size D := ⟨_, rfl⟩
      have HEx : Hid (DkIn wr E (w.heap.size + 1) S w.heap.size D) := Lib.hid (by rw [hE]; exact hDk.exact)
      have HEp : Hid (∀ q, E q → w.heap.size ≤ q ∧ q < wr.heap.size ∧ NoByte wr q ∧ NoStr wr q) := Lib.hid fun q hq => by rw [hE] at hq; exact ⟨hq.1, hq.2.1, hDk.plain q hq⟩
      have HST : Hid (∀ X, Below wr.heap.size wr X → Calls Try.prog 9 #[.pointer (some ⟨w.heap.size + 1, 0, none⟩), rdkVal a l.length cap S.arm S.down, stVal s] X (RetStep E (w.heap.size + 1) w.heap.size S1 X)) := Lib.hid fun X hX => by
        rw [← hS1]
        exact step_any s (HEx.out.below hX) hi (fun q hq => ⟨Nat.lt_of_lt_of_le (HEp.out q hq).2.1 hX.size, plain_kept (HEp.out q hq).2.2 (hX.block q (HEp.out q hq).2.1)⟩) (hin.kept hX) hlc hl (hsl.1.kept (hbw.trans (hX.mono hbw.size))) hsl.2
      have hnz : ¬ E wN.heap.size := fun e => by rw [hE] at e; exact B3.notEx hB hDk e
      have hnA : ¬ E A := fun e => by have := (HEp.out A e).1; omega
      have hnw : ¬ E wr.heap.size := fun e => by have := (HEp.out _ e).2.1; omega
      clear hE hS1
      obtain ⟨z0, z1, z2, t0, t1, t2⟩ := hB.cells
      have hzlt := hB.lt
      obtain ⟨kd, n, nm, dst, bs, ab, cb, kl, al, cl⟩ := s
      have hAr : A < wr.heap.size := Nat.lt_of_lt_of_le hA hbw.size
      have zf0 := fun X (h : Below wr.heap.size wr X) => kept h z0
      have zf1 := fun X (h : Below wr.heap.size wr X) => kept h z1
      have zf2 := fun X (h : Below wr.heap.size wr X) => kept h z2
      have zf3 : ∀ X, Below wr.heap.size wr X → X.cell? ⟨A, off + k * 6, none⟩ = some (.int .i64 kd) := fun X h => kept h (hrw 0 _ rfl)
      have zf4 : ∀ X, Below wr.heap.size wr X → X.cell? ⟨A, off + k * 6 + 1, none⟩ = some (.int .i64 n) := fun X h => kept h (hrw 1 _ rfl)
      have zf5 : ∀ X, Below wr.heap.size wr X → X.cell? ⟨A, off + k * 6 + 2, none⟩ = some (.string nm) := fun X h => kept h (hrw 2 _ rfl)
      have zf6 : ∀ X, Below wr.heap.size wr X → X.cell? ⟨A, off + k * 6 + 3, none⟩ = some (.string dst) := fun X h => kept h (hrw 3 _ rfl)
      have zf7 : ∀ X, Below wr.heap.size wr X → X.cell? ⟨A, off + k * 6 + 4, none⟩ = some (.slice ab bs.length cb) := fun X h => kept h (hrw 4 _ rfl)
      have zf8 : ∀ X, Below wr.heap.size wr X → X.cell? ⟨A, off + k * 6 + 5, none⟩ = some (.slice al kl.length cl) := fun X h => kept h (hrw 5 _ rfl)
      have nx0 : ∀ o, (⟨wr.heap.size, o, none⟩ : Addr) ≠ ⟨wN.heap.size, 0, none⟩ := fun o e => by simp only [Addr.mk.injEq] at e; omega
      have nx1 : ∀ o, (⟨wr.heap.size, o, none⟩ : Addr) ≠ ⟨wN.heap.size, 1, none⟩ := fun o e => by simp only [Addr.mk.injEq] at e; omega
      have nx2 : ∀ o, (⟨wr.heap.size, o, none⟩ : Addr) ≠ ⟨wN.heap.size, 2, none⟩ := fun o e => by simp only [Addr.mk.injEq] at e; omega
      have nx3 : ∀ o, (⟨wr.heap.size, o, none⟩ : Addr) ≠ ⟨A, off + k * 6, none⟩ := fun o e => by simp only [Addr.mk.injEq] at e; omega
      have nx4 : ∀ o, (⟨wr.heap.size, o, none⟩ : Addr) ≠ ⟨A, off + k * 6 + 1, none⟩ := fun o e => by simp only [Addr.mk.injEq] at e; omega
      have nx5 : ∀ o, (⟨wr.heap.size, o, none⟩ : Addr) ≠ ⟨A, off + k * 6 + 2, none⟩ := fun o e => by simp only [Addr.mk.injEq] at e; omega
      have nx6 : ∀ o, (⟨wr.heap.size, o, none⟩ : Addr) ≠ ⟨A, off + k * 6 + 3, none⟩ := fun o e => by simp only [Addr.mk.injEq] at e; omega
      have nx7 : ∀ o, (⟨wr.heap.size, o, none⟩ : Addr) ≠ ⟨A, off + k * 6 + 4, none⟩ := fun o e => by simp only [Addr.mk.injEq] at e; omega
      have nx8 : ∀ o, (⟨wr.heap.size, o, none⟩ : Addr) ≠ ⟨A, off + k * 6 + 5, none⟩ := fun o e => by simp only [Addr.mk.injEq] at e; omega
      have hbd := hbw.drew
      have hlen : k < ls.length := HLT.out
      have HB := Lib.hid hB
      clear hrw hDk hB hin hl hlc hi hsl z0 z1 z2 t0 t1 t2 hlen
      go_upto_region 8 with fail
      go_region_held3 (fun W' => W'.cell? ⟨wN.heap.size, 0, none⟩ = some (.slice a l.length cap) ∧ W'.cell? ⟨wN.heap.size, 1, none⟩ = some (.int .i64 S.arm) ∧ W'.cell? ⟨wN.heap.size, 2, none⟩ = some (.bool S.down) ∧ W'.cell? ⟨A, off + k * 6, none⟩ = some (.int .i64 kd) ∧ W'.cell? ⟨A, off + k * 6 + 1, none⟩ = some (.int .i64 n) ∧ W'.cell? ⟨A, off + k * 6 + 2, none⟩ = some (.string nm) ∧ W'.cell? ⟨A, off + k * 6 + 3, none⟩ = some (.string dst) ∧ W'.cell? ⟨A, off + k * 6 + 4, none⟩ = some (.slice ab bs.length cb) ∧ W'.cell? ⟨A, off + k * 6 + 5, none⟩ = some (.slice al kl.length cl)) (first | exact ⟨zf0 _ (Below.refl _ _).drew, zf1 _ (Below.refl _ _).drew, zf2 _ (Below.refl _ _).drew, zf3 _ (Below.refl _ _).drew, zf4 _ (Below.refl _ _).drew, zf5 _ (Below.refl _ _).drew, zf6 _ (Below.refl _ _).drew, zf7 _ (Below.refl _ _).drew, zf8 _ (Below.refl _ _).drew⟩ | exact ⟨zf0 _ ((Below.refl _ _).alloc (Nat.le_refl _) _).drew, zf1 _ ((Below.refl _ _).alloc (Nat.le_refl _) _).drew, zf2 _ ((Below.refl _ _).alloc (Nat.le_refl _) _).drew, zf3 _ ((Below.refl _ _).alloc (Nat.le_refl _) _).drew, zf4 _ ((Below.refl _ _).alloc (Nat.le_refl _) _).drew, zf5 _ ((Below.refl _ _).alloc (Nat.le_refl _) _).drew, zf6 _ ((Below.refl _ _).alloc (Nat.le_refl _) _).drew, zf7 _ ((Below.refl _ _).alloc (Nat.le_refl _) _).drew, zf8 _ ((Below.refl _ _).alloc (Nat.le_refl _) _).drew⟩ | exact ⟨zk0, zk1, zk2, zk3, zk4, zk5, zk6, zk7, zk8⟩ | exact ⟨kept ((Below.refl _ _).alloc (Nat.le_refl _) _) zk0, kept ((Below.refl _ _).alloc (Nat.le_refl _) _) zk1, kept ((Below.refl _ _).alloc (Nat.le_refl _) _) zk2, kept ((Below.refl _ _).alloc (Nat.le_refl _) _) zk3, kept ((Below.refl _ _).alloc (Nat.le_refl _) _) zk4, kept ((Below.refl _ _).alloc (Nat.le_refl _) _) zk5, kept ((Below.refl _ _).alloc (Nat.le_refl _) _) zk6, kept ((Below.refl _ _).alloc (Nat.le_refl _) _) zk7, kept ((Below.refl _ _).alloc (Nat.le_refl _) _) zk8⟩ | exact ⟨setThree (nx0) zk0, setThree (nx1) zk1, setThree (nx2) zk2, setThree (nx3) zk3, setThree (nx4) zk4, setThree (nx5) zk5, setThree (nx6) zk6, setThree (nx7) zk7, setThree (nx8) zk8⟩ | go_keep)
        (first | (go_at_call 9; (with_reducible refine (HST.out _ (by first | exact (Below.refl _ _).drew | exact ((Below.refl _ _).alloc (Nat.le_refl _) _).drew)).mono ?_); rintro e w2 ⟨a1, l1, c1, ok, rfl, hin1, hc1, hl1, ⟨D1, hD1⟩, hf1⟩; have HL1 := Lib.hid hl1; clear hl1; (first | (have hXk : B3 w2 wr.heap.size 29 (.slice none 0 0) (.int .i64 0) (.bool false) := B3.fr (w := (wr.alloc (Obj.cells #[.slice none 0 0, .int .i64 0, .bool false] 29)).drew) (heap_last0 wr _) hf1 hnw; obtain ⟨u0, u1, u2, v0, v1, v2⟩ := hXk.cells) | skip); have zk0 := hf1.kept (zf0 _ (by first | exact (Below.refl _ _).drew | exact ((Below.refl _ _).alloc (Nat.le_refl _) _).drew)) hnz; have zk1 := hf1.kept (zf1 _ (by first | exact (Below.refl _ _).drew | exact ((Below.refl _ _).alloc (Nat.le_refl _) _).drew)) hnz; have zk2 := hf1.kept (zf2 _ (by first | exact (Below.refl _ _).drew | exact ((Below.refl _ _).alloc (Nat.le_refl _) _).drew)) hnz; have zk3 := hf1.kept (zf3 _ (by first | exact (Below.refl _ _).drew | exact ((Below.refl _ _).alloc (Nat.le_refl _) _).drew)) hnA; have zk4 := hf1.kept (zf4 _ (by first | exact (Below.refl _ _).drew | exact ((Below.refl _ _).alloc (Nat.le_refl _) _).drew)) hnA; have zk5 := hf1.kept (zf5 _ (by first | exact (Below.refl _ _).drew | exact ((Below.refl _ _).alloc (Nat.le_refl _) _).drew)) hnA; have zk6 := hf1.kept (zf6 _ (by first | exact (Below.refl _ _).drew | exact ((Below.refl _ _).alloc (Nat.le_refl _) _).drew)) hnA; have zk7 := hf1.kept (zf7 _ (by first | exact (Below.refl _ _).drew | exact ((Below.refl _ _).alloc (Nat.le_refl _) _).drew)) hnA; have zk8 := hf1.kept (zf8 _ (by first | exact (Below.refl _ _).drew | exact ((Below.refl _ _).alloc (Nat.le_refl _) _).drew)) hnA))
      · go_upto_region 9 with fail
        refine wp_name (fun W3 hW3 => ?_)
        have hbel : Below w2.heap.size w2 W3 := by rw [hW3.out]; exact (Below.refl _ _).alloc (Nat.le_refl _) _
        have hX3 : B3 W3 w2.heap.size 29 (.slice a1 l1.length c1) (.int .i64 S1.arm) (.bool S1.down) := by rw [hW3.out]; exact heap_last0 _ _
        have hB3 : B3 W3 wN.heap.size 29 (.slice a l.length cap) (.int .i64 S.arm) (.bool S.down) := ((show B3 wr.drew wN.heap.size 29 (.slice a l.length cap) (.int .i64 S.arm) (.bool S.down) from HB.out).fr hf1 hnz).below hbel
        have hin3 := hin1.kept hbel
        have hb2w : Below w.heap.size w w2 := hbd.trans (hf1.below (B := w.heap.size) hbd.size (fun q hq => (HEp.out q hq).1))
        have hb3 : Below w.heap.size w W3 := hb2w.trans (hbel.mono hb2w.size)
        have hD3 : DkIn W3 (fun q => w.heap.size ≤ q) (w.heap.size + 1) S1 w.heap.size D1 := (hD1.below hbel).mono fun q hq => by
          rcases hq with hq | hq
          · exact (HEp.out q hq).1
          · exact Nat.le_trans hbd.size hq
        clear hW3
        try clear hXk
        try clear u0 u1 u2 v0 v1 v2
        clear zk0 zk1 zk2 zk3 zk4 zk5 zk6 zk7 zk8 zf0 zf1 zf2 zf3 zf4 zf5 zf6 zf7 zf8 nx0 nx1 nx2 nx3 nx4 nx5 nx6 nx7 nx8
        obtain ⟨x0, x1, x2, y0, y1, y2⟩ := hX3.cells
        go_wp2_with (refine wpList_store_row rfl 29 _ _ rfl wN.heap.size #[.slice a1 l1.length c1, .int .i64 S1.arm, .bool S1.down] rfl rfl 29 _ hB3 (by kernel_rfl) rfl (by kernel_rfl) ?_)
        go_roundw
        case rel =>
          have hlen := HLT.out
          refine ⟨k + 1, D1, a1, l1, c1, by go_num, by omega, ?_, ?_, ?_, hc1, ?_, ?_⟩
          · rw [HS.out]; exact (DkIn.fr hD3.exact (fr_row _ _ _) (fun q hq => by subst hq; exact hB3.noByte ⟨trivial, trivial, trivial⟩) (fun q hq e => by subst e; exact B3.notEx hB3 hD3 hq)).mono fun q hq => hq.1
          · rw [HS.out]; exact hB3.row _ _ _
          · exact hin3.fr (fr_row _ _ _) (fun q hq => by subst hq; exact ⟨hB3.noByte ⟨trivial, trivial, trivial⟩, hB3.noStr ⟨trivial, trivial, trivial⟩⟩)
          · rw [HS.out]; exact HL1.out
          · exact below_row hb3 hNz _
        case measure => have hlen := HLT.out; simp [intOf] <;> omega
      · go_upto_region 9 with fail
        refine wp_name (fun W3 hW3 => ?_)
        have hset : Fr (isR wr.heap.size) w2 W3 := by rw [hW3.out]; exact ((fr_set _).again (fr_set _)).again (fr_set _)
        have hX3 : B3 W3 wr.heap.size 29 (.slice a1 l1.length c1) (.int .i64 S1.arm) (.bool S1.down) := by rw [hW3.out]; exact ((hXk.set0 _).set1 _).set2 _
        have hbal : Below wr.heap.size wr (wr.alloc (Obj.cells #[.slice none 0 0, .int .i64 0, .bool false] 29)).drew := ((Below.refl _ _).alloc (Nat.le_refl _) _).drew
        have hB3 : B3 W3 wN.heap.size 29 (.slice a l.length cap) (.int .i64 S.arm) (.bool S.down) := ((HB.out.below hbal).fr hf1 hnz).fr hset (fun e => by simp only [isR] at e; omega)
        have hin3 : RFsIn W3 a1 l1 := hin1.fr hset (fun q hq => by subst hq; exact ⟨hXk.noByte ⟨trivial, trivial, trivial⟩, hXk.noStr ⟨trivial, trivial, trivial⟩⟩)
        have hbalw : Below w.heap.size w (wr.alloc (Obj.cells #[.slice none 0 0, .int .i64 0, .bool false] 29)).drew := hbw.trans (hbal.mono hbw.size)
        have hb2w : Below w.heap.size w w2 := hbalw.trans (hf1.below (B := w.heap.size) hbalw.size (fun q hq => (HEp.out q hq).1))
        have hwrs : w.heap.size ≤ wr.heap.size := hbw.size
        have hb3 : Below w.heap.size w W3 := hb2w.trans (hset.below (B := w.heap.size) hb2w.size (fun q hq => by subst hq; exact hwrs))
        have hD3 : DkIn W3 (fun q => w.heap.size ≤ q) (w.heap.size + 1) S1 w.heap.size D1 := (DkIn.fr hD1 hset (fun q hq => by subst hq; exact hXk.noByte ⟨trivial, trivial, trivial⟩) (fun q hq e => by
          subst e
          rcases hq with hq | hq
          · exact hnw hq
          · have h2 : (wr.alloc (Obj.cells #[.slice none 0 0, .int .i64 0, .bool false] 29)).heap.size ≤ wr.heap.size := hq
            rw [show (wr.alloc (Obj.cells #[.slice none 0 0, .int .i64 0, .bool false] 29)).heap.size = wr.heap.size + 1 by simp] at h2
            omega)).mono fun q hq => by
          rcases hq with hq | hq
          · exact (HEp.out q hq).1
          · exact Nat.le_trans hbalw.size hq
        clear hW3
        try clear hXk
        try clear u0 u1 u2 v0 v1 v2
        clear zk0 zk1 zk2 zk3 zk4 zk5 zk6 zk7 zk8 zf0 zf1 zf2 zf3 zf4 zf5 zf6 zf7 zf8 nx0 nx1 nx2 nx3 nx4 nx5 nx6 nx7 nx8
        obtain ⟨x0, x1, x2, y0, y1, y2⟩ := hX3.cells
        go_wp2_with (refine wpList_store_row rfl 29 _ _ rfl wN.heap.size #[.slice a1 l1.length c1, .int .i64 S1.arm, .bool S1.down] rfl rfl 29 _ hB3 (by kernel_rfl) rfl (by kernel_rfl) ?_)
        go_roundw
        case rel =>
          have hlen := HLT.out
          refine ⟨k + 1, D1, a1, l1, c1, by go_num, by omega, ?_, ?_, ?_, hc1, ?_, ?_⟩
          · rw [HS.out]; exact (DkIn.fr hD3.exact (fr_row _ _ _) (fun q hq => by subst hq; exact hB3.noByte ⟨trivial, trivial, trivial⟩) (fun q hq e => by subst e; exact B3.notEx hB3 hD3 hq)).mono fun q hq => hq.1
          · rw [HS.out]; exact hB3.row _ _ _
          · exact hin3.fr (fr_row _ _ _) (fun q hq => by subst hq; exact ⟨hB3.noByte ⟨trivial, trivial, trivial⟩, hB3.noStr ⟨trivial, trivial, trivial⟩⟩)
          · rw [HS.out]; exact HL1.out
          · exact below_row hb3 hNz _
        case measure => have hlen := HLT.out; simp [intOf] <;> omega
    · have hke : k = ls.length := by omega
      subst hke
      rw [List.take_length] at hDk hB hl
      have hi := inv_steps ls
      generalize stepsOf ls = S at *
      have h8 := hi.len
      have hll2 : l.length ≤ 1073741824 := by have := congrArg List.length hl; rw [List.length_map] at this; omega
      obtain ⟨z0, z1, z2, t0, t1, t2⟩ := hB.cells
      have HFD := Lib.hid (fun X (h : RFsIn X a l) => rFind_any30 a cap l name X hll2 h)
      have HRT := Lib.hid (fun X => rRightName_any name X hns)
      have HSF := Lib.hid (Safe_any hns hDk)
      clear HL HNW hcs hst
      by_cases hok : nameOk name = true
      case neg =>
        have hre : readE S name = 1 := by unfold readE; rw [if_neg hok]
        have HRD := Lib.hid (Read_no hns hDk (by rw [hre]; decide))
        have hsf : safeOf S name = 0 := by unfold safeOf; rw [if_neg hok]
        rw [hre] at HRD
        rw [hsf] at HSF
        rw [Bool.eq_false_iff.2 hok] at HRT
        clear hok hre hsf
        go_wp2_with (first
          | (go_at_call 10; (with_reducible refine HRD.out.mono ?_); rintro e w1 ⟨rfl, rfl⟩)
          | (go_at_call 11; (with_reducible refine (HFD.out _ hin).mono ?_); rintro e w1 ⟨rfl, rfl⟩)
          | (go_at_call 12; (with_reducible refine (HRT.out _).mono ?_); rintro e w1 ⟨rfl, rfl⟩)
          | (go_at_call 13; (with_reducible refine HSF.out.mono ?_); rintro e w1 ⟨rfl, rfl⟩)
          | (go_at_call 7; (with_reducible refine (HA.out _).mono ?_); rintro e w1 ⟨rfl, hb⟩))
        go_ret
        exact ⟨rfl, below2 hbw hb⟩
      case pos =>
      rw [hok] at HRT
      cases hg : getF S.f name with
      | none =>
        have hre : readE S name = 10 := by unfold readE; rw [if_pos hok, hg]
        have HRD := Lib.hid (Read_no hns hDk (by rw [hre]; decide))
        have hsf : safeOf S name = 0 := by unfold safeOf; rw [if_pos hok, hg]
        have hfi : findFI (rfsOf l) name = -1 := by
          unfold findFI
          cases hx : idxF (rfsOf l) name with
          | none => rfl
          | some j => obtain ⟨_, h⟩ := idxF_get hx; rw [← hl, h] at hg; cases hg
        rw [hre] at HRD
        rw [hsf] at HSF
        rw [hfi] at HFD
        clear hok hre hsf hg hfi
        go_wp2_with (first
          | (go_at_call 10; (with_reducible refine HRD.out.mono ?_); rintro e w1 ⟨rfl, rfl⟩)
          | (go_at_call 11; (with_reducible refine (HFD.out _ hin).mono ?_); rintro e w1 ⟨rfl, rfl⟩)
          | (go_at_call 12; (with_reducible refine (HRT.out _).mono ?_); rintro e w1 ⟨rfl, rfl⟩)
          | (go_at_call 13; (with_reducible refine HSF.out.mono ?_); rintro e w1 ⟨rfl, rfl⟩)
          | (go_at_call 7; (with_reducible refine (HA.out _).mono ?_); rintro e w1 ⟨rfl, hb⟩))
        go_ret
        exact ⟨rfl, below2 hbw hb⟩
      | some f =>
        obtain ⟨j, hj, hjf, hfi⟩ : ∃ j, ∃ h : j < l.length, l[j].f = f ∧ findFI (rfsOf l) name = j := by
          unfold findFI
          cases hx : idxF (rfsOf l) name with
          | none => have := idxF_none hx; rw [hl, hg] at this; cases this
          | some j =>
            obtain ⟨h1, h2⟩ := idxF_get hx
            have h3 : j < l.length := by simpa using h1
            refine ⟨j, h3, ?_, rfl⟩
            rw [← hl, h2] at hg
            have h4 := Option.some.inj hg
            rw [← h4, List.getElem_map]
        rw [hfi] at HFD
        have hj0 : ¬ ((j : Int) < 0) := by omega
        cases hdn : S.down with
        | true =>
          have hre : readE S name = 12 := by unfold readE; rw [if_pos hok, hg]; simp [hdn]
          have HRD := Lib.hid (Read_no hns hDk (by rw [hre]; decide))
          rw [hre] at HRD
          rw [hdn] at z2
          clear hok hre hg hfi hdn hjf hj
          go_wp2_with (first
            | (go_at_call 10; (with_reducible refine HRD.out.mono ?_); rintro e w1 ⟨rfl, rfl⟩)
            | (go_at_call 11; (with_reducible refine (HFD.out _ hin).mono ?_); rintro e w1 ⟨rfl, rfl⟩)
            | (go_at_call 12; (with_reducible refine (HRT.out _).mono ?_); rintro e w1 ⟨rfl, rfl⟩)
            | (go_at_call 7; (with_reducible refine (HA.out _).mono ?_); rintro e w1 ⟨rfl, hb⟩))
          go_ret
          exact ⟨rfl, below2 hbw hb⟩
        | false =>
          have hfm := getF_mem hg
          have hfo := hi.ok f hfm
          have hre : readE S name = 0 := by unfold readE; rw [if_pos hok, hg]; simp [hdn]
          have HRD := Lib.hid (Read_yes hns hDk hok hg hdn (Nat.le_trans hfo.len (by decide)))
          rw [hdn] at z2
          obtain ⟨iu, hiu, hzu0, hzu1, hzu2⟩ := info_parts Try.infoByte
          have hcv := conv_same30
          have hfl := hfo.len
          have H4 := Lib.hid h2
          clear hok hre hg hfi
          go_upto_region 18 with (first
            | (go_at_call 10; (with_reducible refine HRD.out.mono ?_); rintro e w1 ⟨v, rfl, hown1, hb1⟩; obtain ⟨a1, k1, rfl, hin1, hk1⟩ := own_bytesIn hown1; have hinF := hin.kept hb1; obtain ⟨z0, z1, z2, t0, t1, t2⟩ := (hB.below hb1).cells; rw [hdn] at z2)
            | (go_at_call 11; (with_reducible refine (HFD.out _ hinF).mono ?_); rintro e w2 ⟨rfl, rfl⟩)
            | (go_at_call 12; (with_reducible refine (HRT.out _).mono ?_); rintro e w3 ⟨rfl, rfl⟩))
          have hD1 := hDk.below hb1
          have hB1 := hB.below hb1
          have hbw1 := below2 hbw hb1
          clear hDk hB hin z0 z1 z2 t0 t1 t2 hown1 hb1 HRD HFD HRT HSF hbw
          have hown0 : (w1.alloc (Obj.cells #[] 5)).ownsRow w1.heap.size 5 1 (.slice (some ⟨w1.heap.size, 0, none⟩) 0 0) 0 [] := World.ownsRow_made _ _ _ (Nat.le_refl _) (by decide) rfl
          go_upto_region 19 with (at_builtin; go_loud (refine wpList_append_cells rfl _ _ 32 rfl w1.heap.size 5 iu _ 1 1 Try.underlying32 hiu hzu0 hzu1 hzu2 rfl (by decide) _ 0 [] rfl hown0 a1 f.b.length k1 (byteVals f.b) rfl (by rw [byteVals_length]; omega) (hin1.kept ((Below.refl _ _).alloc (Nat.le_refl _) _)).cells (byteVals_one _) (by unfold maxLen; omega) (by omega) (by simp) ?_); intro v2 w2 hown2 hg2; rw [List.nil_append] at hown2; obtain ⟨a2, k2, rfl, hin2, hk2⟩ := own_bytesIn hown2)
          have hb2 : Below w1.heap.size w1 w2 := ((Below.refl _ _).alloc (Nat.le_refl _) _).grown hg2 (by simp) (fun k hk => (hown0.lt k hk).1)
          have hD2 := hD1.below hb2
          have hB2 := hB1.below hb2
          have hF2 := hinF.kept hb2
          have hi2 := hin1.kept hb2
          have hbw2 := below2 hbw1 hb2
          clear hD1 hB1 hinF hin1 hbw1 hown0 hown2 hg2 hb2
          have HA4 : Hid (∀ X S' D' a c, DkIn X (fun q => w.heap.size ≤ q) (w.heap.size + 1) S' w.heap.size D' → DInv S' → BytesIn X a moreB → Calls Try.prog 14 #[.pointer (some ⟨w.heap.size + 1, 0, none⟩), .string name, .slice a 4 c] X (RetDk (Ex X (fun q => w.heap.size ≤ q) (w.heap.size + 1) w.heap.size D') (w.heap.size + 1) w.heap.size (S'.append name moreB).1 (S'.append name moreB).2 X)) := Lib.hid fun X S' D' a c h hi hb => Append_any (l := moreB) hns h.exact hi (by decide) hb
          have HA34 : Hid (∀ X S' D' a c, DkIn X (fun q => w.heap.size ≤ q) (w.heap.size + 1) S' w.heap.size D' → DInv S' → BytesIn X a otherB → Calls Try.prog 14 #[.pointer (some ⟨w.heap.size + 1, 0, none⟩), .string name, .slice a 34 c] X (RetDk (Ex X (fun q => w.heap.size ≤ q) (w.heap.size + 1) w.heap.size D') (w.heap.size + 1) w.heap.size (S'.append name otherB).1 (S'.append name otherB).2 X)) := Lib.hid fun X S' D' a c h hi hb => Append_any (l := otherB) hns h.exact hi (by decide) hb
          have HTR : Hid (∀ X S' D', DkIn X (fun q => w.heap.size ≤ q) (w.heap.size + 1) S' w.heap.size D' → DInv S' → Calls Try.prog 15 #[.pointer (some ⟨w.heap.size + 1, 0, none⟩), .string name, .int .i64 0] X (RetDk (Ex X (fun q => w.heap.size ≤ q) (w.heap.size + 1) w.heap.size D') (w.heap.size + 1) w.heap.size (S'.trunc name 0).1 (S'.trunc name 0).2 X)) := Lib.hid fun X S' D' h hi => Truncate_any hns h.exact hi.arm (fun f hf => Nat.le_trans (hi.ok f (getF_mem hf)).len (by decide))
          have hz2 := hbw2.size
          have hi0 := hi
          obtain ⟨S1, hS1⟩ : ∃ S1, (S.append name moreB).1 = S1 := ⟨_, rfl⟩
          have hi1 : DInv S1 := by rw [← hS1]; exact hi.append _ _
          obtain ⟨S2, hS2⟩ : ∃ S2, (S1.trunc name 0).1 = S2 := ⟨_, rfl⟩
          have hiS2 : DInv S2 := by rw [← hS2]; exact hi1.trunc _ _
          have HA5 := Lib.hid (fun X D' a c h hb => HA4.out X S D' a c h hi hb)
          have HT5 := Lib.hid (fun X D' h => HTR.out X S1 D' h hi1)
          have HA6 := Lib.hid (fun X D' a c h hb => HA34.out X S2 D' a c h hiS2 hb)
          rw [hS1] at HA5
          rw [hS2] at HT5
          clear HA4 HA34 HTR
          go_upto_region 20 with (go_at_call 14; (with_reducible refine (HA5.out _ _ _ _ (hD2.below ((Below.refl _ _).alloc (Nat.le_refl _) _)) ?_).mono ?_); exact bytes_lit (heap_last0 _ _) rfl; intro e w4 hr4; obtain ⟨rfl, ⟨D4, hD4⟩, hf4, hb4⟩ := hr4.law (by simp; omega))
          have pz := hB2.below ((Below.refl w2.heap.size w2).alloc (Nat.le_refl _) (Obj.cells #[.int .u8 109, .int .u8 111, .int .u8 114, .int .u8 101] 5 (4, 5)))
          have hB4 := pz.fr hf4 (B3.notEx pz (hD2.below ((Below.refl w2.heap.size w2).alloc (Nat.le_refl _) (Obj.cells #[.int .u8 109, .int .u8 111, .int .u8 114, .int .u8 101] 5 (4, 5)))))
          have hF4 := (hF2.kept ((Below.refl w2.heap.size w2).alloc (Nat.le_refl _) (Obj.cells #[.int .u8 109, .int .u8 111, .int .u8 114, .int .u8 101] 5 (4, 5)))).fr hf4 (hD2.below ((Below.refl w2.heap.size w2).alloc (Nat.le_refl _) (Obj.cells #[.int .u8 109, .int .u8 111, .int .u8 114, .int .u8 101] 5 (4, 5)))).plain
          have hi4 := (hi2.kept ((Below.refl w2.heap.size w2).alloc (Nat.le_refl _) (Obj.cells #[.int .u8 109, .int .u8 111, .int .u8 114, .int .u8 101] 5 (4, 5)))).fr hf4 (fun k hk => ((hD2.below ((Below.refl w2.heap.size w2).alloc (Nat.le_refl _) (Obj.cells #[.int .u8 109, .int .u8 111, .int .u8 114, .int .u8 101] 5 (4, 5)))).plain k hk).1)
          have hin4 := (hin2.kept ((Below.refl w2.heap.size w2).alloc (Nat.le_refl _) (Obj.cells #[.int .u8 109, .int .u8 111, .int .u8 114, .int .u8 101] 5 (4, 5)))).fr hf4 (fun k hk => ((hD2.below ((Below.refl w2.heap.size w2).alloc (Nat.le_refl _) (Obj.cells #[.int .u8 109, .int .u8 111, .int .u8 114, .int .u8 101] 5 (4, 5)))).plain k hk).1)
          have hbw4 := (hbw2.trans (((Below.refl w2.heap.size w2).alloc (Nat.le_refl _) (Obj.cells #[.int .u8 109, .int .u8 111, .int .u8 114, .int .u8 101] 5 (4, 5))).mono hz2)).trans hb4
          have hz4 := hbw4.size
          clear pz hB2 hF2 hi2 hin2 hbw2 hf4 hb4 hD2 hz2
          go_upto_region 21 with (go_at_call 15; (with_reducible refine (HT5.out _ _ hD4).mono ?_); intro e w5 hr5; obtain ⟨rfl, ⟨D5, hD5⟩, hf5, hb5⟩ := hr5.law hz4)
          have pz := hB4.below (Below.refl w4.heap.size w4)
          have hB5 := pz.fr hf5 (B3.notEx pz (hD4.below (Below.refl w4.heap.size w4)))
          have hF5 := (hF4.kept (Below.refl w4.heap.size w4)).fr hf5 (hD4.below (Below.refl w4.heap.size w4)).plain
          have hi5 := (hi4.kept (Below.refl w4.heap.size w4)).fr hf5 (fun k hk => ((hD4.below (Below.refl w4.heap.size w4)).plain k hk).1)
          have hin5 := (hin4.kept (Below.refl w4.heap.size w4)).fr hf5 (fun k hk => ((hD4.below (Below.refl w4.heap.size w4)).plain k hk).1)
          have hbw5 := (hbw4.trans ((Below.refl w4.heap.size w4).mono hz4)).trans hb5
          have hz5 := hbw5.size
          clear pz hB4 hF4 hi4 hin4 hbw4 hf5 hb5 hD4 hz4
          go_upto_region 22 with (go_at_call 14; (with_reducible refine (HA6.out _ _ _ _ (hD5.below ((Below.refl _ _).alloc (Nat.le_refl _) _)) ?_).mono ?_); exact bytes_lit (heap_last0 _ _) rfl; intro e w6 hr6; obtain ⟨rfl, ⟨D6, hD6⟩, hf6, hb6⟩ := hr6.law (by simp; omega))
          have pz := hB5.below ((Below.refl w5.heap.size w5).alloc (Nat.le_refl _) (Obj.cells otherC 5 (34, 35)))
          have hB6 := pz.fr hf6 (B3.notEx pz (hD5.below ((Below.refl w5.heap.size w5).alloc (Nat.le_refl _) (Obj.cells otherC 5 (34, 35)))))
          have hF6 := (hF5.kept ((Below.refl w5.heap.size w5).alloc (Nat.le_refl _) (Obj.cells otherC 5 (34, 35)))).fr hf6 (hD5.below ((Below.refl w5.heap.size w5).alloc (Nat.le_refl _) (Obj.cells otherC 5 (34, 35)))).plain
          have hi6 := (hi5.kept ((Below.refl w5.heap.size w5).alloc (Nat.le_refl _) (Obj.cells otherC 5 (34, 35)))).fr hf6 (fun k hk => ((hD5.below ((Below.refl w5.heap.size w5).alloc (Nat.le_refl _) (Obj.cells otherC 5 (34, 35)))).plain k hk).1)
          have hin6 := (hin5.kept ((Below.refl w5.heap.size w5).alloc (Nat.le_refl _) (Obj.cells otherC 5 (34, 35)))).fr hf6 (fun k hk => ((hD5.below ((Below.refl w5.heap.size w5).alloc (Nat.le_refl _) (Obj.cells otherC 5 (34, 35)))).plain k hk).1)
          have hbw6 := (hbw5.trans (((Below.refl w5.heap.size w5).alloc (Nat.le_refl _) (Obj.cells otherC 5 (34, 35))).mono hz5)).trans hb6
          have hz6 := hbw6.size
          clear pz hB5 hF5 hi5 hin5 hbw5 hf6 hb6 hD5 hz5
          obtain ⟨z0, z1, z2, t0, t1, t2⟩ := hB6.cells
          obtain ⟨AL, ofl, hal, hrw, hgo⟩ := hF6.at hj
          have c1 : w6.cell? ⟨AL, ofl + j * 3 + 1, none⟩ = some (.slice l[j].a f.b.length l[j].cap) := by have := hrw j hj 1 _ rfl; rw [← hjf]; exact this
          have hgb : BytesIn w6 l[j].a f.b := by rw [← hjf]; exact hgo.bytes
          have HS1 := Lib.hid (fun X (h1 : BytesIn X a1 f.b) (h2 : BytesIn X l[j].a f.b) => rSameBytes_any a1 l[j].a k1 l[j].cap f.b f.b X (by omega) (by omega) h1 h2)
          have HS2 := Lib.hid (fun X (h1 : BytesIn X a1 f.b) (h2 : BytesIn X a2 f.b) => rSameBytes_any a1 a2 k1 k2 f.b f.b X (by omega) (by omega) h1 h2)
          rw [decide_eq_true rfl] at HS1 HS2
          subst hal
          clear hrw hgo hjf
          generalize l[j].a = aj at *
          generalize l[j].cap = cj at *
          go_wp2_with (first
            | (go_at_call 16; (with_reducible refine (HS1.out _ hi6 hgb).mono ?_); rintro e w7 ⟨rfl, hb7⟩)
            | (go_at_call 16; (with_reducible refine (HS2.out _ (hi6.kept hb7) (hin6.kept hb7)).mono ?_); rintro e w8 ⟨rfl, hb8⟩)
            | (go_at_call 7; (with_reducible refine (HA.out _).mono ?_); rintro e w9 ⟨rfl, hb⟩))
          go_ret
          exact ⟨rfl, below2 (below2 (below2 hbw6 hb7) hb8) hb⟩
end Go.Proofs.Ytbkelbdeodbhcaa
