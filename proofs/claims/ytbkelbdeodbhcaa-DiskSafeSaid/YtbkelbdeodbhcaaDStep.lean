/- The disk's law: one step, by the program and by the reference. Conditions: as in the text. -/
import Derived.Test.YtbkelbdeodbhcaaDLawC
import Derived.Test.YtbkelbdeodbhcaaDAwake
import Derived.Test.YtbkelbdeodbhcaaDOpen
set_option linter.unusedSimpArgs false
set_option linter.unusedVariables false
set_option linter.unnecessarySimpa false
namespace Go.Proofs.Ytbkelbdeodbhcaa
open Go.RowKit

variable {F : Nat → Prop} {d : Nat} {S : DS} {b : Nat} {D : DataW Unit} {w w' : World}
/-- the blocks that are a disk's, and no others -/
def Ex (w : World) (F : Nat → Prop) (d b : Nat) (D : DataW Unit) : Nat → Prop := fun k => F k ∧ k < w.heap.size ∧ (k = d ∨ k = b ∨ ∃ s : ByteArray, D.atKey (nk s) .nil = .lit (.int .i64 k))
theorem DkIn.exact (h : DkIn w F d S b D) : DkIn w (Ex w F d b D) d S b D :=
  ⟨⟨h.fd, Fr.lt h.cells, Or.inl rfl⟩, h.cells, ⟨h.fb, by obtain ⟨es, cl, hb, _⟩ := h.own; exact Fr.lt hb, Or.inr (Or.inl rfl)⟩, h.own,
    ⟨h.files.none, fun s f hg => by
      obtain ⟨fb, h1, h2, h3⟩ := h.files.some s f hg
      have hlt : fb < w.heap.size := by obtain ⟨a, cap, h4, _⟩ := h3; exact Fr.lt h4
      exact ⟨fb, ⟨h1, hlt, Or.inr (Or.inr ⟨s, h2⟩)⟩, h2, h3⟩, h.files.apart, h.files.has, h.files.size⟩⟩
theorem DkIn.plain (h : DkIn w F d S b D) : ∀ k, Ex w F d b D k → NoByte w k ∧ NoStr w k := by
  rintro k ⟨_, _, hk | hk | ⟨s, hk⟩⟩
  · subst hk; exact ⟨NoByte.disk h.cells, h.cells.noStr⟩
  · subst hk
    refine ⟨?_, mapNoStr h.own⟩
    obtain ⟨es, cl, hb, _⟩ := h.own
    exact NoByte.map hb
  · cases hg : getF S.f s with
    | none => have := h.files.none s hg; rw [this] at hk; cases hk
    | some f =>
      obtain ⟨fb, _, h2, h3⟩ := h.files.some s f hg
      obtain rfl : fb = k := by have := h2.symm.trans hk; simp at this; omega
      exact ⟨FileAt.noByte h3 _ rfl, h3.noStr⟩
def DS.step (S : DS) (s : StepIt) : DS :=
  if s.kind = 1 then (S.append s.name s.b).1 else if s.kind = 2 then (S.sync s.name).1 else if s.kind = 3 then (S.trunc s.name s.n).1 else if s.kind = 4 then (S.rename s.name s.dst).1
  else if s.kind = 5 then (S.remove s.name).1 else if s.kind = 8 then (S.rarm s.n).1 else if s.kind = 6 then S.crash s.l else S
theorem DInv.step {S : DS} (h : DInv S) (s : StepIt) : DInv (S.step s) := by
  unfold DS.step
  repeat' split
  · exact h.append _ _
  · exact h.sync _
  · exact h.trunc _ _
  · exact h.rename _ _
  · exact h.remove _
  · exact h.arm' _
  · exact h.crash _
  · exact h
theorem Arm_dk (n : Int) (h : DkIn w F d S b D) : Calls Try.prog 24 #[.pointer (some ⟨d, 0, none⟩), .int .i64 n] w (RetDk F d b (S.rarm n).1 (S.rarm n).2 w) := by
  refine (Arm_any d b S.arm S.down n w h.cells).mono ?_
  rintro e w' ⟨rfl, hc, hf⟩
  have h2 := h.setCells hc hf
  refine ⟨?_, ⟨D, ?_⟩, hf.mono fun k _ hk => by subst hk; exact h.fd⟩
  · unfold DS.rarm; split <;> rfl
  · have : (S.rarm n).1 = { S with arm := if armOk n then n.toNat else S.arm, down := S.down } := by unfold DS.rarm; split <;> rfl
    rw [this]
    exact h2.mono fun k hk => Or.inl hk
theorem rArm_rd (a : Option Addr) (cap : Nat) (l : List RF) (N : Int) (hlc : l.length ≤ cap) (hl : rfsOf l = S.f) (h : RFsIn w a l) : Calls Try.prog 32 #[rdkVal a l.length cap S.arm S.down, .int .i64 N] w (RetRD (S.rarm N).1 (S.rarm N).2 w) := by
  refine (rArm_any a l.length cap S.arm S.down N w).mono ?_
  rintro e w' ⟨rfl, hb⟩
  refine ⟨a, l, cap, ?_, h.kept hb, hlc, ?_, hb⟩
  · unfold DS.rarm; split <;> rfl
  · rw [hl]; unfold DS.rarm; split <;> rfl

theorem heap_last2 (w : World) (o p q : Obj) : (((w.alloc o).alloc p).alloc q).heap[w.heap.size + 1 + 1]? = some q := by
  have := heap_last0 ((w.alloc o).alloc p) q
  rwa [show ((w.alloc o).alloc p).heap.size = w.heap.size + 1 + 1 by simp] at this
theorem B3.fr {T : Nat → Prop} {R : Nat} {t : TypeId} {x y z : Value} (h : B3 w R t x y z) (hf : Fr T w w') (hn : ¬ T R) : B3 w' R t x y z := (hf.block R h.lt hn).trans h
/-- what a step leaves -/
def RetStep (F : Nat → Prop) (d b : Nat) (S' : DS) (w : World) (e : Ending) (w' : World) : Prop :=
  ∃ (a : Option Addr) (l : List RF) (cap : Nat) (ok : Bool), e = .returned (.tuple #[rdkVal a l.length cap S'.arm S'.down, .bool ok]) ∧ RFsIn w' a l ∧ l.length ≤ cap ∧ rfsOf l = S'.f ∧ (∃ D', DkIn w' (grow F w) d S' b D') ∧ Fr F w w'

theorem plain_kept {k : Nat} (h : NoByte w k ∧ NoStr w k) (hb : w'.heap[k]? = w.heap[k]?) : NoByte w' k ∧ NoStr w' k :=
  ⟨fun o c e => h.1 o c (by rw [← e]; exact (World.cell?_of_block (w := w) (a := ⟨k, o, none⟩) hb).symm), fun o c e => h.2 o c (by rw [← e]; exact (World.cell?_of_block (w := w) (a := ⟨k, o, none⟩) hb).symm)⟩
theorem ret_step {S1 : DS} {e : Ending} {w1 w2 : World} {z : Nat} {t : TypeId} (a : Option Addr) (l : List RF) (cap : Nat) (ok : Bool) {D2 : DataW Unit} (he : e = .returned (.tuple #[rdkVal a l.length cap S1.arm S1.down, .bool ok]))
    (hin : RFsIn w2 a l) (hc : l.length ≤ cap) (hl : rfsOf l = S1.f) (hD : DkIn w2 (grow F w1) d S1 b D2) (hZ : B3 w2 z t (.slice none 0 0) (.int .i64 0) (.bool false)) (hf : Fr F w w2) (hs : w.heap.size ≤ w1.heap.size) (hz : w.heap.size ≤ z) (hnz : ¬ F z) (hlt : z < w1.heap.size) {x' : Value} {n : Int} {q : Bool} :
    RetStep F d b S1 w e (((w2.setCell ⟨z, 0, none⟩ x').setCell ⟨z, 1, none⟩ (.int .i64 n)).setCell ⟨z, 2, none⟩ (.bool q)) := by
  have hset : Fr (isR z) w2 (((w2.setCell ⟨z, 0, none⟩ x').setCell ⟨z, 1, none⟩ (.int .i64 n)).setCell ⟨z, 2, none⟩ (.bool q)) := ((fr_set _).again (fr_set _)).again (fr_set _)
  have hb := hZ.noByte ⟨trivial, trivial, trivial⟩
  have hst := hZ.noStr ⟨trivial, trivial, trivial⟩
  refine ⟨a, l, cap, ok, he, hin.fr hset (fun k hk => by subst hk; exact ⟨hb, hst⟩), hc, hl, ⟨D2, ?_⟩, ?_⟩
  · refine (DkIn.fr hD hset (fun k hk => by subst hk; exact hb) (fun k hk e => ?_)).mono fun k hk => ?_
    · subst e
      rcases hk with hk | hk
      · exact hnz hk
      · omega
    · rcases hk with hk | hk
      · exact Or.inl hk
      · exact Or.inr (Nat.le_trans hs hk)
  · exact hf.trans (hset.mono fun k _ hk => by subst hk; exact Or.inr hz)
set_option maxRecDepth 100000 in
set_option maxHeartbeats 2000000 in
theorem step_append {a ab al : Option Addr} {cap cb cl : Nat} {l : List RF} {nm dst : ByteArray} {n : Int} {bs : Bytes} {kl : Ks} {S1 : DS} {c : Int} (h : DkIn w F d S b D) (hF : ∀ k, F k → k < w.heap.size ∧ NoByte w k ∧ NoStr w k)
    (HR : Hid (∀ X, Below w.heap.size w X → Calls Try.prog 27 #[rdkVal a l.length cap S.arm S.down, .string nm, .slice ab bs.length cb] X (RetRD S1 c X)))
    (HD : Hid (∀ X D, w.heap.size ≤ X.heap.size → Below w.heap.size w X → DkIn X F d S b D → Calls Try.prog 14 #[.pointer (some ⟨d, 0, none⟩), .string nm, .slice ab bs.length cb] X (RetDk F d b S1 c X))) :
    Calls Try.prog 9 #[.pointer (some ⟨d, 0, none⟩), rdkVal a l.length cap S.arm S.down, stVal ⟨1, n, nm, dst, bs, ab, cb, kl, al, cl⟩] w (RetStep F d b S1 w) := by
  have H0 := Lib.hid h
  go_enter Try.func9, Try.ntmps9
  go_upto_region 1 with fail
  refine wp_name (fun W hW => ?_)
  have hb0 : Below w.heap.size w W := by rw [hW.out]; go_grown
  have hD : B3 W w.heap.size 29 (.slice a l.length cap) (.int .i64 S.arm) (.bool S.down) := by
    rw [hW.out]; exact (((Below.refl (w.heap.size + 1) _).alloc (by simp) _).alloc (by simp) _) |>.block _ (by simp) |>.trans (heap_last0 w _)
  have hZ : B3 W (w.heap.size + 1 + 1) 29 (.slice none 0 0) (.int .i64 0) (.bool false) := by rw [hW.out]; exact heap_last2 w _ _ _
  have q0 : W.cell? ⟨w.heap.size + 1, 0, none⟩ = some (.int .i64 1) := by rw [hW.out]; go_simp
  have q2 : W.cell? ⟨w.heap.size + 1, 2, none⟩ = some (.string nm) := by rw [hW.out]; go_simp
  have q4 : W.cell? ⟨w.heap.size + 1, 4, none⟩ = some (.slice ab bs.length cb) := by rw [hW.out]; go_simp
  clear hW h
  obtain ⟨d0, d1, d2, e0, e1, e2⟩ := hD.cells
  go_upto_region 3 with fail
  go_upto_region 4 with (go_at_call 27; (with_reducible refine (HR.out _ hb0).mono ?_); rintro e w1 ⟨a1, l1, c1, rfl, hin1, hc1, hl1, hb1⟩)
  have HL1 := Lib.hid hl1
  have hZlt := hZ.lt
  refine wp_name (fun W1 hW1 => ?_)
  have hX : B3 W1 w1.heap.size 29 (.slice a1 l1.length c1) (.int .i64 S1.arm) (.bool S1.down) := by rw [hW1.out]; exact heap_last0 w1 _
  have hbw : Below W.heap.size W W1 := by rw [hW1.out]; exact hb1.alloc hb1.size _
  have hb2 : Below w1.heap.size w1 W1 := by rw [hW1.out]; exact (Below.refl _ _).alloc (Nat.le_refl _) _
  replace hin1 := hin1.kept hb2
  replace hZ := hZ.below hbw
  replace hb0 := below2 hb0 hbw
  replace q2 := kept hbw q2
  replace q4 := kept hbw q4
  have hlt1 : w.heap.size + 1 + 1 < w1.heap.size := Nat.lt_of_lt_of_le hZlt hb1.size
  have hlt3 : w.heap.size + 1 + 1 < W1.drew.heap.size := Nat.lt_of_lt_of_le hlt1 hb2.size
  clear hW1 hb1 hbw hb2 hl1 d0 d1 d2 e0 e1 e2 hD q0
  have hn1 : ¬ F w1.heap.size := fun e => by have := (hF _ e).1; omega
  have hnq : ¬ F (w.heap.size + 1) := fun e => by have := (hF _ e).1; omega
  have hnz : ¬ F (w.heap.size + 1 + 1) := fun e => by have := (hF _ e).1; omega
  have HDk := Lib.hid (HD.out W1.drew D hb0.size hb0.drew (H0.out.below hb0.drew))
  have HX := Lib.hid hX
  have hX : B3 W1.drew w1.heap.size 29 (.slice a1 l1.length c1) (.int .i64 S1.arm) (.bool S1.down) := hX
  have hZ : B3 W1.drew (w.heap.size + 1 + 1) 29 (.slice none 0 0) (.int .i64 0) (.bool false) := hZ
  obtain ⟨x0, x1, x2, y0, y1, y2⟩ := hX.cells
  obtain ⟨z0, z1, z2, t0, t1, t2⟩ := hZ.cells
  have q2 : W1.drew.cell? ⟨w.heap.size + 1, 2, none⟩ = some (.string nm) := q2
  have q4 : W1.drew.cell? ⟨w.heap.size + 1, 4, none⟩ = some (.slice ab bs.length cb) := q4
  have hnx : w.heap.size + 1 + 1 ≠ w1.heap.size := by omega
  have hnq2 : w.heap.size + 1 + 1 ≠ w.heap.size + 1 := by omega
  go_region_held3 (fun W' => W'.cell? ⟨w1.heap.size, 0, none⟩ = some (.slice a1 l1.length c1) ∧ W'.cell? ⟨w1.heap.size, 1, none⟩ = some (.int .i64 S1.arm) ∧ W'.cell? ⟨w1.heap.size, 2, none⟩ = some (.bool S1.down) ∧ W'.cell? ⟨w.heap.size + 1, 2, none⟩ = some (.string nm) ∧ W'.cell? ⟨w.heap.size + 1, 4, none⟩ = some (.slice ab bs.length cb)) (first | exact ⟨hf2.kept x0 hn1, hf2.kept x1 hn1, hf2.kept x2 hn1, hf2.kept q2 hnq, hf2.kept q4 hnq⟩ | go_keep)
    (first | (go_at_call 14; (with_reducible refine HDk.out.mono ?_); rintro e w2 ⟨rfl, ⟨D2, hD2⟩, hf2⟩; have x0k := hf2.kept x0 hn1; have hZ2 := hZ.fr hf2 hnz; obtain ⟨z0, z1, z2, t0, t1, t2⟩ := hZ2.cells))
  all_goals
    clear x0 x1 x2 y0 y1 y2 x0k q2 q4 z0 z1 z2 t0 t1 t2
    go_wp2
    refine retCT 6 7 29 29 (w.heap.size + 1 + 1) _ _ _ rfl rfl rfl (((hZ2.set0 _).set1 _).set2 _) Try.underlying29 rfl (by kernel_rfl) rfl ?_
    exact ret_step a1 l1 c1 _ rfl (RFsIn.fr (T := F) (show RFsIn W1.drew a1 l1 from hin1.kept (Below.refl _ _).drew) hf2 (fun k hk => plain_kept (hF k hk).2 ((hb0.drew).block k (hF k hk).1))) hc1 HL1.out hD2 hZ2 ((Fr.of_below hb0.drew).again hf2) (Nat.le_trans hb0.size (Nat.le_refl _)) (by omega) hnz hlt3
set_option maxRecDepth 100000 in
set_option maxHeartbeats 2000000 in
theorem step_sync {a ab al : Option Addr} {cap cb cl : Nat} {l : List RF} {nm dst : ByteArray} {n : Int} {bs : Bytes} {kl : Ks} {S1 : DS} {c : Int} (h : DkIn w F d S b D) (hF : ∀ k, F k → k < w.heap.size ∧ NoByte w k ∧ NoStr w k)
    (HR : Hid (∀ X, Below w.heap.size w X → Calls Try.prog 28 #[rdkVal a l.length cap S.arm S.down, .string nm] X (RetRD S1 c X)))
    (HD : Hid (∀ X D, w.heap.size ≤ X.heap.size → Below w.heap.size w X → DkIn X F d S b D → Calls Try.prog 21 #[.pointer (some ⟨d, 0, none⟩), .string nm] X (RetDk F d b S1 c X))) :
    Calls Try.prog 9 #[.pointer (some ⟨d, 0, none⟩), rdkVal a l.length cap S.arm S.down, stVal ⟨2, n, nm, dst, bs, ab, cb, kl, al, cl⟩] w (RetStep F d b S1 w) := by
  have H0 := Lib.hid h
  go_enter Try.func9, Try.ntmps9
  go_upto_region 1 with fail
  refine wp_name (fun W hW => ?_)
  have hb0 : Below w.heap.size w W := by rw [hW.out]; go_grown
  have hD : B3 W w.heap.size 29 (.slice a l.length cap) (.int .i64 S.arm) (.bool S.down) := by
    rw [hW.out]; exact (((Below.refl (w.heap.size + 1) _).alloc (by simp) _).alloc (by simp) _) |>.block _ (by simp) |>.trans (heap_last0 w _)
  have hZ : B3 W (w.heap.size + 1 + 1) 29 (.slice none 0 0) (.int .i64 0) (.bool false) := by rw [hW.out]; exact heap_last2 w _ _ _
  have q0 : W.cell? ⟨w.heap.size + 1, 0, none⟩ = some (.int .i64 2) := by rw [hW.out]; go_simp
  have q2 : W.cell? ⟨w.heap.size + 1, 2, none⟩ = some (.string nm) := by rw [hW.out]; go_simp
  clear hW h
  obtain ⟨d0, d1, d2, e0, e1, e2⟩ := hD.cells
  go_upto_region 6 with fail
  go_upto_region 7 with (go_at_call 28; (with_reducible refine (HR.out _ hb0).mono ?_); rintro e w1 ⟨a1, l1, c1, rfl, hin1, hc1, hl1, hb1⟩)
  have HL1 := Lib.hid hl1
  have hZlt := hZ.lt
  refine wp_name (fun W1 hW1 => ?_)
  have hX : B3 W1 w1.heap.size 29 (.slice a1 l1.length c1) (.int .i64 S1.arm) (.bool S1.down) := by rw [hW1.out]; exact heap_last0 w1 _
  have hbw : Below W.heap.size W W1 := by rw [hW1.out]; exact hb1.alloc hb1.size _
  have hb2 : Below w1.heap.size w1 W1 := by rw [hW1.out]; exact (Below.refl _ _).alloc (Nat.le_refl _) _
  replace hin1 := hin1.kept hb2
  replace hZ := hZ.below hbw
  replace hb0 := below2 hb0 hbw
  replace q2 := kept hbw q2
  have hlt1 : w.heap.size + 1 + 1 < w1.heap.size := Nat.lt_of_lt_of_le hZlt hb1.size
  have hlt3 : w.heap.size + 1 + 1 < W1.drew.heap.size := Nat.lt_of_lt_of_le hlt1 hb2.size
  clear hW1 hb1 hbw hb2 hl1 d0 d1 d2 e0 e1 e2 hD q0
  have hn1 : ¬ F w1.heap.size := fun e => by have := (hF _ e).1; omega
  have hnq : ¬ F (w.heap.size + 1) := fun e => by have := (hF _ e).1; omega
  have hnz : ¬ F (w.heap.size + 1 + 1) := fun e => by have := (hF _ e).1; omega
  have HDk := Lib.hid (HD.out W1.drew D hb0.size hb0.drew (H0.out.below hb0.drew))
  have HX := Lib.hid hX
  have hX : B3 W1.drew w1.heap.size 29 (.slice a1 l1.length c1) (.int .i64 S1.arm) (.bool S1.down) := hX
  have hZ : B3 W1.drew (w.heap.size + 1 + 1) 29 (.slice none 0 0) (.int .i64 0) (.bool false) := hZ
  obtain ⟨x0, x1, x2, y0, y1, y2⟩ := hX.cells
  obtain ⟨z0, z1, z2, t0, t1, t2⟩ := hZ.cells
  have q2 : W1.drew.cell? ⟨w.heap.size + 1, 2, none⟩ = some (.string nm) := q2
  have hnx : w.heap.size + 1 + 1 ≠ w1.heap.size := by omega
  have hnq2 : w.heap.size + 1 + 1 ≠ w.heap.size + 1 := by omega
  go_region_held3 (fun W' => W'.cell? ⟨w1.heap.size, 0, none⟩ = some (.slice a1 l1.length c1) ∧ W'.cell? ⟨w1.heap.size, 1, none⟩ = some (.int .i64 S1.arm) ∧ W'.cell? ⟨w1.heap.size, 2, none⟩ = some (.bool S1.down) ∧ W'.cell? ⟨w.heap.size + 1, 2, none⟩ = some (.string nm)) (first | exact ⟨hf2.kept x0 hn1, hf2.kept x1 hn1, hf2.kept x2 hn1, hf2.kept q2 hnq⟩ | go_keep)
    (first | (go_at_call 21; (with_reducible refine HDk.out.mono ?_); rintro e w2 ⟨rfl, ⟨D2, hD2⟩, hf2⟩; have x0k := hf2.kept x0 hn1; have hZ2 := hZ.fr hf2 hnz; obtain ⟨z0, z1, z2, t0, t1, t2⟩ := hZ2.cells))
  all_goals
    clear x0 x1 x2 y0 y1 y2 x0k q2 z0 z1 z2 t0 t1 t2
    go_wp2
    refine retCT 6 7 29 29 (w.heap.size + 1 + 1) _ _ _ rfl rfl rfl (((hZ2.set0 _).set1 _).set2 _) Try.underlying29 rfl (by kernel_rfl) rfl ?_
    exact ret_step a1 l1 c1 _ rfl (RFsIn.fr (T := F) (show RFsIn W1.drew a1 l1 from hin1.kept (Below.refl _ _).drew) hf2 (fun k hk => plain_kept (hF k hk).2 ((hb0.drew).block k (hF k hk).1))) hc1 HL1.out hD2 hZ2 ((Fr.of_below hb0.drew).again hf2) (Nat.le_trans hb0.size (Nat.le_refl _)) (by omega) hnz hlt3
set_option maxRecDepth 100000 in
set_option maxHeartbeats 2000000 in
theorem step_trunc {a ab al : Option Addr} {cap cb cl : Nat} {l : List RF} {nm dst : ByteArray} {n : Int} {bs : Bytes} {kl : Ks} {S1 : DS} {c : Int} (h : DkIn w F d S b D) (hF : ∀ k, F k → k < w.heap.size ∧ NoByte w k ∧ NoStr w k)
    (HR : Hid (∀ X, Below w.heap.size w X → Calls Try.prog 29 #[rdkVal a l.length cap S.arm S.down, .string nm, .int .i64 n] X (RetRD S1 c X)))
    (HD : Hid (∀ X D, w.heap.size ≤ X.heap.size → Below w.heap.size w X → DkIn X F d S b D → Calls Try.prog 15 #[.pointer (some ⟨d, 0, none⟩), .string nm, .int .i64 n] X (RetDk F d b S1 c X))) :
    Calls Try.prog 9 #[.pointer (some ⟨d, 0, none⟩), rdkVal a l.length cap S.arm S.down, stVal ⟨3, n, nm, dst, bs, ab, cb, kl, al, cl⟩] w (RetStep F d b S1 w) := by
  have H0 := Lib.hid h
  go_enter Try.func9, Try.ntmps9
  go_upto_region 1 with fail
  refine wp_name (fun W hW => ?_)
  have hb0 : Below w.heap.size w W := by rw [hW.out]; go_grown
  have hD : B3 W w.heap.size 29 (.slice a l.length cap) (.int .i64 S.arm) (.bool S.down) := by
    rw [hW.out]; exact (((Below.refl (w.heap.size + 1) _).alloc (by simp) _).alloc (by simp) _) |>.block _ (by simp) |>.trans (heap_last0 w _)
  have hZ : B3 W (w.heap.size + 1 + 1) 29 (.slice none 0 0) (.int .i64 0) (.bool false) := by rw [hW.out]; exact heap_last2 w _ _ _
  have q0 : W.cell? ⟨w.heap.size + 1, 0, none⟩ = some (.int .i64 3) := by rw [hW.out]; go_simp
  have q2 : W.cell? ⟨w.heap.size + 1, 2, none⟩ = some (.string nm) := by rw [hW.out]; go_simp
  have q1 : W.cell? ⟨w.heap.size + 1, 1, none⟩ = some (.int .i64 n) := by rw [hW.out]; go_simp
  clear hW h
  obtain ⟨d0, d1, d2, e0, e1, e2⟩ := hD.cells
  go_upto_region 9 with fail
  go_upto_region 10 with (go_at_call 29; (with_reducible refine (HR.out _ hb0).mono ?_); rintro e w1 ⟨a1, l1, c1, rfl, hin1, hc1, hl1, hb1⟩)
  have HL1 := Lib.hid hl1
  have hZlt := hZ.lt
  refine wp_name (fun W1 hW1 => ?_)
  have hX : B3 W1 w1.heap.size 29 (.slice a1 l1.length c1) (.int .i64 S1.arm) (.bool S1.down) := by rw [hW1.out]; exact heap_last0 w1 _
  have hbw : Below W.heap.size W W1 := by rw [hW1.out]; exact hb1.alloc hb1.size _
  have hb2 : Below w1.heap.size w1 W1 := by rw [hW1.out]; exact (Below.refl _ _).alloc (Nat.le_refl _) _
  replace hin1 := hin1.kept hb2
  replace hZ := hZ.below hbw
  replace hb0 := below2 hb0 hbw
  replace q2 := kept hbw q2
  replace q1 := kept hbw q1
  have hlt1 : w.heap.size + 1 + 1 < w1.heap.size := Nat.lt_of_lt_of_le hZlt hb1.size
  have hlt3 : w.heap.size + 1 + 1 < W1.drew.heap.size := Nat.lt_of_lt_of_le hlt1 hb2.size
  clear hW1 hb1 hbw hb2 hl1 d0 d1 d2 e0 e1 e2 hD q0
  have hn1 : ¬ F w1.heap.size := fun e => by have := (hF _ e).1; omega
  have hnq : ¬ F (w.heap.size + 1) := fun e => by have := (hF _ e).1; omega
  have hnz : ¬ F (w.heap.size + 1 + 1) := fun e => by have := (hF _ e).1; omega
  have HDk := Lib.hid (HD.out W1.drew D hb0.size hb0.drew (H0.out.below hb0.drew))
  have HX := Lib.hid hX
  have hX : B3 W1.drew w1.heap.size 29 (.slice a1 l1.length c1) (.int .i64 S1.arm) (.bool S1.down) := hX
  have hZ : B3 W1.drew (w.heap.size + 1 + 1) 29 (.slice none 0 0) (.int .i64 0) (.bool false) := hZ
  obtain ⟨x0, x1, x2, y0, y1, y2⟩ := hX.cells
  obtain ⟨z0, z1, z2, t0, t1, t2⟩ := hZ.cells
  have q2 : W1.drew.cell? ⟨w.heap.size + 1, 2, none⟩ = some (.string nm) := q2
  have q1 : W1.drew.cell? ⟨w.heap.size + 1, 1, none⟩ = some (.int .i64 n) := q1
  have hnx : w.heap.size + 1 + 1 ≠ w1.heap.size := by omega
  have hnq2 : w.heap.size + 1 + 1 ≠ w.heap.size + 1 := by omega
  go_region_held3 (fun W' => W'.cell? ⟨w1.heap.size, 0, none⟩ = some (.slice a1 l1.length c1) ∧ W'.cell? ⟨w1.heap.size, 1, none⟩ = some (.int .i64 S1.arm) ∧ W'.cell? ⟨w1.heap.size, 2, none⟩ = some (.bool S1.down) ∧ W'.cell? ⟨w.heap.size + 1, 2, none⟩ = some (.string nm) ∧ W'.cell? ⟨w.heap.size + 1, 1, none⟩ = some (.int .i64 n)) (first | exact ⟨hf2.kept x0 hn1, hf2.kept x1 hn1, hf2.kept x2 hn1, hf2.kept q2 hnq, hf2.kept q1 hnq⟩ | go_keep)
    (first | (go_at_call 15; (with_reducible refine HDk.out.mono ?_); rintro e w2 ⟨rfl, ⟨D2, hD2⟩, hf2⟩; have x0k := hf2.kept x0 hn1; have hZ2 := hZ.fr hf2 hnz; obtain ⟨z0, z1, z2, t0, t1, t2⟩ := hZ2.cells))
  all_goals
    clear x0 x1 x2 y0 y1 y2 x0k q2 q1 z0 z1 z2 t0 t1 t2
    go_wp2
    refine retCT 6 7 29 29 (w.heap.size + 1 + 1) _ _ _ rfl rfl rfl (((hZ2.set0 _).set1 _).set2 _) Try.underlying29 rfl (by kernel_rfl) rfl ?_
    exact ret_step a1 l1 c1 _ rfl (RFsIn.fr (T := F) (show RFsIn W1.drew a1 l1 from hin1.kept (Below.refl _ _).drew) hf2 (fun k hk => plain_kept (hF k hk).2 ((hb0.drew).block k (hF k hk).1))) hc1 HL1.out hD2 hZ2 ((Fr.of_below hb0.drew).again hf2) (Nat.le_trans hb0.size (Nat.le_refl _)) (by omega) hnz hlt3
set_option maxRecDepth 100000 in
set_option maxHeartbeats 2000000 in
theorem step_rename {a ab al : Option Addr} {cap cb cl : Nat} {l : List RF} {nm dst : ByteArray} {n : Int} {bs : Bytes} {kl : Ks} {S1 : DS} {c : Int} (h : DkIn w F d S b D) (hF : ∀ k, F k → k < w.heap.size ∧ NoByte w k ∧ NoStr w k)
    (HR : Hid (∀ X, Below w.heap.size w X → Calls Try.prog 30 #[rdkVal a l.length cap S.arm S.down, .string nm, .string dst] X (RetRD S1 c X)))
    (HD : Hid (∀ X D, w.heap.size ≤ X.heap.size → Below w.heap.size w X → DkIn X F d S b D → Calls Try.prog 22 #[.pointer (some ⟨d, 0, none⟩), .string nm, .string dst] X (RetDk F d b S1 c X))) :
    Calls Try.prog 9 #[.pointer (some ⟨d, 0, none⟩), rdkVal a l.length cap S.arm S.down, stVal ⟨4, n, nm, dst, bs, ab, cb, kl, al, cl⟩] w (RetStep F d b S1 w) := by
  have H0 := Lib.hid h
  go_enter Try.func9, Try.ntmps9
  go_upto_region 1 with fail
  refine wp_name (fun W hW => ?_)
  have hb0 : Below w.heap.size w W := by rw [hW.out]; go_grown
  have hD : B3 W w.heap.size 29 (.slice a l.length cap) (.int .i64 S.arm) (.bool S.down) := by
    rw [hW.out]; exact (((Below.refl (w.heap.size + 1) _).alloc (by simp) _).alloc (by simp) _) |>.block _ (by simp) |>.trans (heap_last0 w _)
  have hZ : B3 W (w.heap.size + 1 + 1) 29 (.slice none 0 0) (.int .i64 0) (.bool false) := by rw [hW.out]; exact heap_last2 w _ _ _
  have q0 : W.cell? ⟨w.heap.size + 1, 0, none⟩ = some (.int .i64 4) := by rw [hW.out]; go_simp
  have q2 : W.cell? ⟨w.heap.size + 1, 2, none⟩ = some (.string nm) := by rw [hW.out]; go_simp
  have q3 : W.cell? ⟨w.heap.size + 1, 3, none⟩ = some (.string dst) := by rw [hW.out]; go_simp
  clear hW h
  obtain ⟨d0, d1, d2, e0, e1, e2⟩ := hD.cells
  go_upto_region 12 with fail
  go_upto_region 13 with (go_at_call 30; (with_reducible refine (HR.out _ hb0).mono ?_); rintro e w1 ⟨a1, l1, c1, rfl, hin1, hc1, hl1, hb1⟩)
  have HL1 := Lib.hid hl1
  have hZlt := hZ.lt
  refine wp_name (fun W1 hW1 => ?_)
  have hX : B3 W1 w1.heap.size 29 (.slice a1 l1.length c1) (.int .i64 S1.arm) (.bool S1.down) := by rw [hW1.out]; exact heap_last0 w1 _
  have hbw : Below W.heap.size W W1 := by rw [hW1.out]; exact hb1.alloc hb1.size _
  have hb2 : Below w1.heap.size w1 W1 := by rw [hW1.out]; exact (Below.refl _ _).alloc (Nat.le_refl _) _
  replace hin1 := hin1.kept hb2
  replace hZ := hZ.below hbw
  replace hb0 := below2 hb0 hbw
  replace q2 := kept hbw q2
  replace q3 := kept hbw q3
  have hlt1 : w.heap.size + 1 + 1 < w1.heap.size := Nat.lt_of_lt_of_le hZlt hb1.size
  have hlt3 : w.heap.size + 1 + 1 < W1.drew.heap.size := Nat.lt_of_lt_of_le hlt1 hb2.size
  clear hW1 hb1 hbw hb2 hl1 d0 d1 d2 e0 e1 e2 hD q0
  have hn1 : ¬ F w1.heap.size := fun e => by have := (hF _ e).1; omega
  have hnq : ¬ F (w.heap.size + 1) := fun e => by have := (hF _ e).1; omega
  have hnz : ¬ F (w.heap.size + 1 + 1) := fun e => by have := (hF _ e).1; omega
  have HDk := Lib.hid (HD.out W1.drew D hb0.size hb0.drew (H0.out.below hb0.drew))
  have HX := Lib.hid hX
  have hX : B3 W1.drew w1.heap.size 29 (.slice a1 l1.length c1) (.int .i64 S1.arm) (.bool S1.down) := hX
  have hZ : B3 W1.drew (w.heap.size + 1 + 1) 29 (.slice none 0 0) (.int .i64 0) (.bool false) := hZ
  obtain ⟨x0, x1, x2, y0, y1, y2⟩ := hX.cells
  obtain ⟨z0, z1, z2, t0, t1, t2⟩ := hZ.cells
  have q2 : W1.drew.cell? ⟨w.heap.size + 1, 2, none⟩ = some (.string nm) := q2
  have q3 : W1.drew.cell? ⟨w.heap.size + 1, 3, none⟩ = some (.string dst) := q3
  have hnx : w.heap.size + 1 + 1 ≠ w1.heap.size := by omega
  have hnq2 : w.heap.size + 1 + 1 ≠ w.heap.size + 1 := by omega
  go_region_held3 (fun W' => W'.cell? ⟨w1.heap.size, 0, none⟩ = some (.slice a1 l1.length c1) ∧ W'.cell? ⟨w1.heap.size, 1, none⟩ = some (.int .i64 S1.arm) ∧ W'.cell? ⟨w1.heap.size, 2, none⟩ = some (.bool S1.down) ∧ W'.cell? ⟨w.heap.size + 1, 2, none⟩ = some (.string nm) ∧ W'.cell? ⟨w.heap.size + 1, 3, none⟩ = some (.string dst)) (first | exact ⟨hf2.kept x0 hn1, hf2.kept x1 hn1, hf2.kept x2 hn1, hf2.kept q2 hnq, hf2.kept q3 hnq⟩ | go_keep)
    (first | (go_at_call 22; (with_reducible refine HDk.out.mono ?_); rintro e w2 ⟨rfl, ⟨D2, hD2⟩, hf2⟩; have x0k := hf2.kept x0 hn1; have hZ2 := hZ.fr hf2 hnz; obtain ⟨z0, z1, z2, t0, t1, t2⟩ := hZ2.cells))
  all_goals
    clear x0 x1 x2 y0 y1 y2 x0k q2 q3 z0 z1 z2 t0 t1 t2
    go_wp2
    refine retCT 6 7 29 29 (w.heap.size + 1 + 1) _ _ _ rfl rfl rfl (((hZ2.set0 _).set1 _).set2 _) Try.underlying29 rfl (by kernel_rfl) rfl ?_
    exact ret_step a1 l1 c1 _ rfl (RFsIn.fr (T := F) (show RFsIn W1.drew a1 l1 from hin1.kept (Below.refl _ _).drew) hf2 (fun k hk => plain_kept (hF k hk).2 ((hb0.drew).block k (hF k hk).1))) hc1 HL1.out hD2 hZ2 ((Fr.of_below hb0.drew).again hf2) (Nat.le_trans hb0.size (Nat.le_refl _)) (by omega) hnz hlt3
set_option maxRecDepth 100000 in
set_option maxHeartbeats 2000000 in
theorem step_remove {a ab al : Option Addr} {cap cb cl : Nat} {l : List RF} {nm dst : ByteArray} {n : Int} {bs : Bytes} {kl : Ks} {S1 : DS} {c : Int} (h : DkIn w F d S b D) (hF : ∀ k, F k → k < w.heap.size ∧ NoByte w k ∧ NoStr w k)
    (HR : Hid (∀ X, Below w.heap.size w X → Calls Try.prog 31 #[rdkVal a l.length cap S.arm S.down, .string nm] X (RetRD S1 c X)))
    (HD : Hid (∀ X D, w.heap.size ≤ X.heap.size → Below w.heap.size w X → DkIn X F d S b D → Calls Try.prog 23 #[.pointer (some ⟨d, 0, none⟩), .string nm] X (RetDk F d b S1 c X))) :
    Calls Try.prog 9 #[.pointer (some ⟨d, 0, none⟩), rdkVal a l.length cap S.arm S.down, stVal ⟨5, n, nm, dst, bs, ab, cb, kl, al, cl⟩] w (RetStep F d b S1 w) := by
  have H0 := Lib.hid h
  go_enter Try.func9, Try.ntmps9
  go_upto_region 1 with fail
  refine wp_name (fun W hW => ?_)
  have hb0 : Below w.heap.size w W := by rw [hW.out]; go_grown
  have hD : B3 W w.heap.size 29 (.slice a l.length cap) (.int .i64 S.arm) (.bool S.down) := by
    rw [hW.out]; exact (((Below.refl (w.heap.size + 1) _).alloc (by simp) _).alloc (by simp) _) |>.block _ (by simp) |>.trans (heap_last0 w _)
  have hZ : B3 W (w.heap.size + 1 + 1) 29 (.slice none 0 0) (.int .i64 0) (.bool false) := by rw [hW.out]; exact heap_last2 w _ _ _
  have q0 : W.cell? ⟨w.heap.size + 1, 0, none⟩ = some (.int .i64 5) := by rw [hW.out]; go_simp
  have q2 : W.cell? ⟨w.heap.size + 1, 2, none⟩ = some (.string nm) := by rw [hW.out]; go_simp
  clear hW h
  obtain ⟨d0, d1, d2, e0, e1, e2⟩ := hD.cells
  go_upto_region 15 with fail
  go_upto_region 16 with (go_at_call 31; (with_reducible refine (HR.out _ hb0).mono ?_); rintro e w1 ⟨a1, l1, c1, rfl, hin1, hc1, hl1, hb1⟩)
  have HL1 := Lib.hid hl1
  have hZlt := hZ.lt
  refine wp_name (fun W1 hW1 => ?_)
  have hX : B3 W1 w1.heap.size 29 (.slice a1 l1.length c1) (.int .i64 S1.arm) (.bool S1.down) := by rw [hW1.out]; exact heap_last0 w1 _
  have hbw : Below W.heap.size W W1 := by rw [hW1.out]; exact hb1.alloc hb1.size _
  have hb2 : Below w1.heap.size w1 W1 := by rw [hW1.out]; exact (Below.refl _ _).alloc (Nat.le_refl _) _
  replace hin1 := hin1.kept hb2
  replace hZ := hZ.below hbw
  replace hb0 := below2 hb0 hbw
  replace q2 := kept hbw q2
  have hlt1 : w.heap.size + 1 + 1 < w1.heap.size := Nat.lt_of_lt_of_le hZlt hb1.size
  have hlt3 : w.heap.size + 1 + 1 < W1.drew.heap.size := Nat.lt_of_lt_of_le hlt1 hb2.size
  clear hW1 hb1 hbw hb2 hl1 d0 d1 d2 e0 e1 e2 hD q0
  have hn1 : ¬ F w1.heap.size := fun e => by have := (hF _ e).1; omega
  have hnq : ¬ F (w.heap.size + 1) := fun e => by have := (hF _ e).1; omega
  have hnz : ¬ F (w.heap.size + 1 + 1) := fun e => by have := (hF _ e).1; omega
  have HDk := Lib.hid (HD.out W1.drew D hb0.size hb0.drew (H0.out.below hb0.drew))
  have HX := Lib.hid hX
  have hX : B3 W1.drew w1.heap.size 29 (.slice a1 l1.length c1) (.int .i64 S1.arm) (.bool S1.down) := hX
  have hZ : B3 W1.drew (w.heap.size + 1 + 1) 29 (.slice none 0 0) (.int .i64 0) (.bool false) := hZ
  obtain ⟨x0, x1, x2, y0, y1, y2⟩ := hX.cells
  obtain ⟨z0, z1, z2, t0, t1, t2⟩ := hZ.cells
  have q2 : W1.drew.cell? ⟨w.heap.size + 1, 2, none⟩ = some (.string nm) := q2
  have hnx : w.heap.size + 1 + 1 ≠ w1.heap.size := by omega
  have hnq2 : w.heap.size + 1 + 1 ≠ w.heap.size + 1 := by omega
  go_region_held3 (fun W' => W'.cell? ⟨w1.heap.size, 0, none⟩ = some (.slice a1 l1.length c1) ∧ W'.cell? ⟨w1.heap.size, 1, none⟩ = some (.int .i64 S1.arm) ∧ W'.cell? ⟨w1.heap.size, 2, none⟩ = some (.bool S1.down) ∧ W'.cell? ⟨w.heap.size + 1, 2, none⟩ = some (.string nm)) (first | exact ⟨hf2.kept x0 hn1, hf2.kept x1 hn1, hf2.kept x2 hn1, hf2.kept q2 hnq⟩ | go_keep)
    (first | (go_at_call 23; (with_reducible refine HDk.out.mono ?_); rintro e w2 ⟨rfl, ⟨D2, hD2⟩, hf2⟩; have x0k := hf2.kept x0 hn1; have hZ2 := hZ.fr hf2 hnz; obtain ⟨z0, z1, z2, t0, t1, t2⟩ := hZ2.cells))
  all_goals
    clear x0 x1 x2 y0 y1 y2 x0k q2 z0 z1 z2 t0 t1 t2
    go_wp2
    refine retCT 6 7 29 29 (w.heap.size + 1 + 1) _ _ _ rfl rfl rfl (((hZ2.set0 _).set1 _).set2 _) Try.underlying29 rfl (by kernel_rfl) rfl ?_
    exact ret_step a1 l1 c1 _ rfl (RFsIn.fr (T := F) (show RFsIn W1.drew a1 l1 from hin1.kept (Below.refl _ _).drew) hf2 (fun k hk => plain_kept (hF k hk).2 ((hb0.drew).block k (hF k hk).1))) hc1 HL1.out hD2 hZ2 ((Fr.of_below hb0.drew).again hf2) (Nat.le_trans hb0.size (Nat.le_refl _)) (by omega) hnz hlt3
set_option maxRecDepth 100000 in
set_option maxHeartbeats 2000000 in
theorem step_arm {a ab al : Option Addr} {cap cb cl : Nat} {l : List RF} {nm dst : ByteArray} {n : Int} {bs : Bytes} {kl : Ks} {S1 : DS} {c : Int} (h : DkIn w F d S b D) (hF : ∀ k, F k → k < w.heap.size ∧ NoByte w k ∧ NoStr w k)
    (HR : Hid (∀ X, Below w.heap.size w X → Calls Try.prog 32 #[rdkVal a l.length cap S.arm S.down, .int .i64 n] X (RetRD S1 c X)))
    (HD : Hid (∀ X D, w.heap.size ≤ X.heap.size → Below w.heap.size w X → DkIn X F d S b D → Calls Try.prog 24 #[.pointer (some ⟨d, 0, none⟩), .int .i64 n] X (RetDk F d b S1 c X))) :
    Calls Try.prog 9 #[.pointer (some ⟨d, 0, none⟩), rdkVal a l.length cap S.arm S.down, stVal ⟨8, n, nm, dst, bs, ab, cb, kl, al, cl⟩] w (RetStep F d b S1 w) := by
  have H0 := Lib.hid h
  go_enter Try.func9, Try.ntmps9
  go_upto_region 1 with fail
  refine wp_name (fun W hW => ?_)
  have hb0 : Below w.heap.size w W := by rw [hW.out]; go_grown
  have hD : B3 W w.heap.size 29 (.slice a l.length cap) (.int .i64 S.arm) (.bool S.down) := by
    rw [hW.out]; exact (((Below.refl (w.heap.size + 1) _).alloc (by simp) _).alloc (by simp) _) |>.block _ (by simp) |>.trans (heap_last0 w _)
  have hZ : B3 W (w.heap.size + 1 + 1) 29 (.slice none 0 0) (.int .i64 0) (.bool false) := by rw [hW.out]; exact heap_last2 w _ _ _
  have q0 : W.cell? ⟨w.heap.size + 1, 0, none⟩ = some (.int .i64 8) := by rw [hW.out]; go_simp
  have q1 : W.cell? ⟨w.heap.size + 1, 1, none⟩ = some (.int .i64 n) := by rw [hW.out]; go_simp
  clear hW h
  obtain ⟨d0, d1, d2, e0, e1, e2⟩ := hD.cells
  go_upto_region 18 with fail
  go_upto_region 19 with (go_at_call 32; (with_reducible refine (HR.out _ hb0).mono ?_); rintro e w1 ⟨a1, l1, c1, rfl, hin1, hc1, hl1, hb1⟩)
  have HL1 := Lib.hid hl1
  have hZlt := hZ.lt
  refine wp_name (fun W1 hW1 => ?_)
  have hX : B3 W1 w1.heap.size 29 (.slice a1 l1.length c1) (.int .i64 S1.arm) (.bool S1.down) := by rw [hW1.out]; exact heap_last0 w1 _
  have hbw : Below W.heap.size W W1 := by rw [hW1.out]; exact hb1.alloc hb1.size _
  have hb2 : Below w1.heap.size w1 W1 := by rw [hW1.out]; exact (Below.refl _ _).alloc (Nat.le_refl _) _
  replace hin1 := hin1.kept hb2
  replace hZ := hZ.below hbw
  replace hb0 := below2 hb0 hbw
  replace q1 := kept hbw q1
  have hlt1 : w.heap.size + 1 + 1 < w1.heap.size := Nat.lt_of_lt_of_le hZlt hb1.size
  have hlt3 : w.heap.size + 1 + 1 < W1.drew.heap.size := Nat.lt_of_lt_of_le hlt1 hb2.size
  clear hW1 hb1 hbw hb2 hl1 d0 d1 d2 e0 e1 e2 hD q0
  have hn1 : ¬ F w1.heap.size := fun e => by have := (hF _ e).1; omega
  have hnq : ¬ F (w.heap.size + 1) := fun e => by have := (hF _ e).1; omega
  have hnz : ¬ F (w.heap.size + 1 + 1) := fun e => by have := (hF _ e).1; omega
  have HDk := Lib.hid (HD.out W1.drew D hb0.size hb0.drew (H0.out.below hb0.drew))
  have HX := Lib.hid hX
  have hX : B3 W1.drew w1.heap.size 29 (.slice a1 l1.length c1) (.int .i64 S1.arm) (.bool S1.down) := hX
  have hZ : B3 W1.drew (w.heap.size + 1 + 1) 29 (.slice none 0 0) (.int .i64 0) (.bool false) := hZ
  obtain ⟨x0, x1, x2, y0, y1, y2⟩ := hX.cells
  obtain ⟨z0, z1, z2, t0, t1, t2⟩ := hZ.cells
  have q1 : W1.drew.cell? ⟨w.heap.size + 1, 1, none⟩ = some (.int .i64 n) := q1
  have hnx : w.heap.size + 1 + 1 ≠ w1.heap.size := by omega
  have hnq2 : w.heap.size + 1 + 1 ≠ w.heap.size + 1 := by omega
  go_region_held3 (fun W' => W'.cell? ⟨w1.heap.size, 0, none⟩ = some (.slice a1 l1.length c1) ∧ W'.cell? ⟨w1.heap.size, 1, none⟩ = some (.int .i64 S1.arm) ∧ W'.cell? ⟨w1.heap.size, 2, none⟩ = some (.bool S1.down) ∧ W'.cell? ⟨w.heap.size + 1, 1, none⟩ = some (.int .i64 n)) (first | exact ⟨hf2.kept x0 hn1, hf2.kept x1 hn1, hf2.kept x2 hn1, hf2.kept q1 hnq⟩ | go_keep)
    (first | (go_at_call 24; (with_reducible refine HDk.out.mono ?_); rintro e w2 ⟨rfl, ⟨D2, hD2⟩, hf2⟩; have x0k := hf2.kept x0 hn1; have hZ2 := hZ.fr hf2 hnz; obtain ⟨z0, z1, z2, t0, t1, t2⟩ := hZ2.cells))
  all_goals
    clear x0 x1 x2 y0 y1 y2 x0k q1 z0 z1 z2 t0 t1 t2
    go_wp2
    refine retCT 6 7 29 29 (w.heap.size + 1 + 1) _ _ _ rfl rfl rfl (((hZ2.set0 _).set1 _).set2 _) Try.underlying29 rfl (by kernel_rfl) rfl ?_
    exact ret_step a1 l1 c1 _ rfl (RFsIn.fr (T := F) (show RFsIn W1.drew a1 l1 from hin1.kept (Below.refl _ _).drew) hf2 (fun k hk => plain_kept (hF k hk).2 ((hb0.drew).block k (hF k hk).1))) hc1 HL1.out hD2 hZ2 ((Fr.of_below hb0.drew).again hf2) (Nat.le_trans hb0.size (Nat.le_refl _)) (by omega) hnz hlt3
end Go.Proofs.Ytbkelbdeodbhcaa
