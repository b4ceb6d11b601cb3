/- The disk's law: a crash as a step; any step. Conditions: as in the text. -/
import Derived.Test.YtlefejokpdjpgaaGreatRest
import Derived.Test.YtlefejokpdjpgaaGreatDStep
import Derived.Test.YtlefejokpdjpgaaGreatDRefE
import Derived.Test.YtlefejokpdjpgaaGreatDRefG
import Derived.Test.YtlefejokpdjpgaaGreatWalR
set_option linter.unusedSimpArgs false
set_option linter.unusedVariables false
set_option linter.unnecessarySimpa false
set_option maxHeartbeats 16000000
set_option maxRecDepth 100000
namespace Go.Proofs.YtlefejokpdjpgaaGreat
open Go.RowKit
variable {F : Nat → Prop} {d : Nat} {S : DS} {b : Nat} {D : DataW Unit} {w w' : World}
/-- a row stored whole, above all that was there -/
theorem mD {S1 : DS} {e : Ending} {w2 : World} {z : Nat} {t : TypeId} (a : Option Addr) (l : List RF) (cap : Nat) (ok : Bool) {D2 : DataW Unit} (he : e = .returned (.tuple #[aO a l.length cap S1.arm S1.down, .bool ok]))
 (hin : RFsIn w2 a l) (hc : l.length ≤ cap) (hl : az l = S1.f) (hD : DkIn w2 F d S1 b D2) (hZ : B3 w2 z t (.slice none 0 0) (.int .i64 0) (.bool false)) (hf : Fr F w w2) (hz : w.heap.size ≤ z) (hnz : ¬ F z) {cs : Array Value} :
 kJ F d b S1 w e (w2.setRow z cs) := by
 have hset : Fr (isR z) w2 (w2.setRow z cs) := dw _ _ _
 have hb := hZ.noByte ⟨trivial, trivial, trivial⟩
 have hst := hZ.noStr ⟨trivial, trivial, trivial⟩
 refine ⟨a, l, cap, ok, he, hin.fr hset (fun k hk => by subst hk; exact ⟨hb, hst⟩), hc, hl, ⟨D2, ?_⟩, ?_⟩
 ·exact (DkIn.fr hD hset (fun k hk => by subst hk; exact hb) (fun k hk e => by subst e; exact hnz hk)).mono fun k hk => Or.inl hk
 ·exact z34
variable {F : Nat → Prop} {d : Nat} {S : DS} {b : Nat} {D : DataW Unit} {w w' : World}
/-- a step, and where its record's dots and its bytes lie -/
structure WSt where
 kind : Int
 n : Int
 x : Rec
 ax : Option Addr
 cx : Nat
 b : Bytes
 ab : Option Addr
 cb : Nat
abbrev aQ (s : WSt) : List Value := .int .i64 s.kind :: .int .i64 s.n :: (ah s.x s.ax s.cx ++ [.slice s.ab s.b.length s.cb])
abbrev jh (s : WSt) : Value := .agg (aQ s).toArray
structure WStIn (w : World) (s : WSt) : Prop where
 ev : EvIn w s.ax s.cx s.x.e
 bytes : BytesIn w s.ab s.b
 blen : s.b.length ≤ maxLen
theorem WStIn.dots {w w' : World} {s : WSt} (h : WStIn w s) (hb : Below w.heap.size w w') : DotsIn w' s.ax s.x.e.over := h.ev.dots.kept hb
/-- a step that is answered right -/
def RetStepT (F : Nat → Prop) (d b : Nat) (S' : DS) (w : World) (e : Ending) (w' : World) : Prop := kJ F d b S' w e w' ∧ ∃ v, e = .returned (.tuple #[v, .bool true])
/-- the box of a step -/
theorem iC (s : WSt) (w : World) (o p : Obj) (t : TypeId) : (((w.alloc o).alloc (.cells (aQ s).toArray t)).alloc p).rangeAt (w.heap.size + 1) 0 (aQ s) := by
 have h0 := bn w o (.cells (aQ s).toArray t)
 have h1 : (((w.alloc o).alloc (.cells (aQ s).toArray t)).alloc p).heap[w.heap.size + 1]? = some (.cells (aQ s).toArray t) := by
  rw [← h0]; exact heap_alloc_old _ _ (by simp)
 intro j v hv
 rw [Nat.zero_add]
 simp only [World.cell?, h1]
 simpa using hv
theorem y33 {p q : Prop} (k : q) (h : PLift q → p := by
 intro kk
 unfold aQ
 rw [show 2 + j = j + 1 + 1 by omega, List.getElem?_cons_succ, List.getElem?_cons_succ, List.getElem?_append_left (by rw [cu]; exact hj)]
 exact kk.down) : p := h ⟨k⟩
theorem xg {s : WSt} {W : World} {R : Nat} (h : W.rangeAt R 0 (aQ s)) : W.rangeAt R 2 (ah s.x s.ax s.cx) := fun j v hv => by
 have hj : j < 21 := by have := (List.getElem?_eq_some_iff.1 hv).1; rwa [cu] at this
 have := h (2 + j) v (by
  refine y33 ?_
  exact hv)
 rwa [Nat.zero_add] at this
theorem z10 {p : Prop} (h : p := by rw [hW.out]; exact (((Below.refl (w.heap.size + 1) _).alloc (by simp) _).alloc (by simp) _) |>.block _ (by simp) |>.trans (aF w _)) : p := h
theorem qi {a ab ax : Option Addr} {cap cb cx : Nat} {l : List RF} {x : Rec} {n : Int} {bs : Bytes} {S1 : DS} {c : Int} (h : DkIn w F d S b D) (hF : ∀ k, F k → k < w.heap.size ∧ NoByte w k ∧ NoStr w k)
 (HR : Hid (∀ X, Below w.heap.size w X → Calls Tryz.prog 35 #[aO a l.length cap S.arm S.down] X (eG S1 c X)))
 (HD : Hid (∀ X D, w.heap.size ≤ X.heap.size → Below w.heap.size w X → DkIn X F d S b D → Calls Tryz.prog 11 #[.pointer (some ⟨d, 0, none⟩)] X (RetDk F d b S1 c X))) :
 Calls Tryz.prog 19 #[.pointer (some ⟨d, 0, none⟩), aO a l.length cap S.arm S.down, jh ⟨2, n, x, ax, cx, bs, ab, cb⟩] w (RetStepT F d b S1 w) := by
 have H0 := Lib.hid h
 go_enter Tryz.func19, Tryz.ntmps19
 go_upto_region 1 with fail
 refine wp_name (fun W hW => ?_)
 have hb0 : Below w.heap.size w W := by rw [hW.out]; go_grown
 have hD : B3 W w.heap.size 62 (.slice a l.length cap) (.int .i64 S.arm) (.bool S.down) := by
  exact z10
 have hZ : B3 W (w.heap.size + 1 + 1) 62 (.slice none 0 0) (.int .i64 0) (.bool false) := by rw [hW.out]; exact cZ w _ _ _
 have hQ : W.rangeAt (w.heap.size + 1) 0 (aQ ⟨2, n, x, ax, cx, bs, ab, cb⟩) := by rw [hW.out]; exact iC ⟨2, n, x, ax, cx, bs, ab, cb⟩ w _ _ _
 have q0 : W.cell? ⟨w.heap.size + 1, 0, none⟩ = some (.int .i64 2) := hQ 0 _ rfl
 clear hW
 obtain ⟨d0, d1, d2, e0, e1, e2⟩ := hD.cells
 clear h hQ
 go_upto_region 6 with fail
 go_upto_region 7 with (go_at_call 35; (with_reducible refine (HR.out _ hb0).mono ?_); rintro e w1 ⟨a1, l1, c1, rfl, hin1, hc1, hl1, hb1⟩)
 have HL1 := Lib.hid hl1
 have lF := hZ.lt
 refine wp_name (fun W1 hW1 => ?_)
 have hX : B3 W1 w1.heap.size 62 (.slice a1 l1.length c1) (.int .i64 S1.arm) (.bool S1.down) := by rw [hW1.out]; exact aF w1 _
 have hbw : Below W.heap.size W W1 := by rw [hW1.out]; exact hb1.alloc hb1.size _
 have hb2 : Below w1.heap.size w1 W1 := by rw [hW1.out]; exact (Below.refl _ _).alloc (Nat.le_refl _) _
 replace hin1 := hin1.kept hb2
 replace hZ := hZ.below hbw
 replace hb0 := below2 hb0 hbw
 have hlt1 : w.heap.size + 1 + 1 < w1.heap.size := Nat.lt_of_lt_of_le lF hb1.size
 have hlt3 : w.heap.size + 1 + 1 < W1.drew.heap.size := Nat.lt_of_lt_of_le hlt1 hb2.size
 clear hW1 hb1 hbw hb2 hl1 d0 d1 d2 e0 e1 e2 hD q0
 have hn1 : ¬ F w1.heap.size := fun e => by have := (hF _ e).1; omega
 have hnq : ¬ F (w.heap.size + 1) := fun e => by have := (hF _ e).1; omega
 have hnz : ¬ F (w.heap.size + 1 + 1) := fun e => by have := (hF _ e).1; omega
 have HDk := Lib.hid (HD.out W1.drew D hb0.size hb0.drew (H0.out.below hb0.drew))
 have HX := Lib.hid hX
 have hX : B3 W1.drew w1.heap.size 62 (.slice a1 l1.length c1) (.int .i64 S1.arm) (.bool S1.down) := hX
 have hZ : B3 W1.drew (w.heap.size + 1 + 1) 62 (.slice none 0 0) (.int .i64 0) (.bool false) := hZ
 obtain ⟨x0, x1, x2, y0, y1, y2⟩ := hX.cells
 obtain ⟨z0, z1, z2, t0, t1, t2⟩ := hZ.cells
 have hnx : w.heap.size + 1 + 1 ≠ w1.heap.size := by omega
 have vw : w.heap.size + 1 + 1 ≠ w.heap.size + 1 := by omega
 have hcc : (c == c) = true := beq_self_eq_true c
 go_region_held3 (fun W' => W'.cell? ⟨w1.heap.size, 0, none⟩ = some (.slice a1 l1.length c1) ∧ W'.cell? ⟨w1.heap.size, 1, none⟩ = some (.int .i64 S1.arm) ∧ W'.cell? ⟨w1.heap.size, 2, none⟩ = some (.bool S1.down)) (first | exact ⟨hf2.kept x0 hn1, hf2.kept x1 hn1, hf2.kept x2 hn1⟩ | go_keep)
  (first | (go_at_call 11; (with_reducible refine HDk.out.mono ?_); rintro e w2 ⟨rfl, ⟨D2, hD2⟩, hf2⟩; have x0k := hf2.kept x0 hn1; have hZ2 := hZ.fr hf2 hnz; obtain ⟨z0, z1, z2, t0, t1, t2⟩ := hZ2.cells))
 all_goals
  clear x0 x1 x2 y0 y1 y2 x0k  z0 z1 z2 t0 t1 t2
  go_wp2
  refine dA 6 7 62 62 (w.heap.size + 1 + 1) _ _ _ rfl rfl rfl (((hZ2.set0 _).set1 _).set2 _) Tryz.underlying62 rfl (by kernel_rfl) rfl ?_
  exact ⟨iI a1 l1 c1 _ rfl (RFsIn.fr (T := F) (show RFsIn W1.drew a1 l1 from hin1.kept (Below.refl _ _).drew) hf2 (fun k hk => dG (hF k hk).2 ((hb0.drew).block k (hF k hk).1))) hc1 HL1.out hD2 hZ2 ((Fr.of_below hb0.drew).again hf2) (Nat.le_trans hb0.size (Nat.le_refl _)) (by omega) hnz hlt3, _, rfl⟩
theorem oG {a ab ax : Option Addr} {cap cb cx : Nat} {l : List RF} {x : Rec} {n : Int} {bs : Bytes} {S1 : DS} {c : Int} (h : DkIn w F d S b D) (hF : ∀ k, F k → k < w.heap.size ∧ NoByte w k ∧ NoStr w k)
 (HR : Hid (∀ X, Below w.heap.size w X → Calls Tryz.prog 37 #[aO a l.length cap S.arm S.down] X (eG S1 c X)))
 (HD : Hid (∀ X D, w.heap.size ≤ X.heap.size → Below w.heap.size w X → DkIn X F d S b D → Calls Tryz.prog 16 #[.pointer (some ⟨d, 0, none⟩)] X (RetDk F d b S1 c X))) :
 Calls Tryz.prog 19 #[.pointer (some ⟨d, 0, none⟩), aO a l.length cap S.arm S.down, jh ⟨4, n, x, ax, cx, bs, ab, cb⟩] w (RetStepT F d b S1 w) := by
 have H0 := Lib.hid h
 go_enter Tryz.func19, Tryz.ntmps19
 go_upto_region 1 with fail
 refine wp_name (fun W hW => ?_)
 have hb0 : Below w.heap.size w W := by rw [hW.out]; go_grown
 have hD : B3 W w.heap.size 62 (.slice a l.length cap) (.int .i64 S.arm) (.bool S.down) := by
  exact z10
 have hZ : B3 W (w.heap.size + 1 + 1) 62 (.slice none 0 0) (.int .i64 0) (.bool false) := by rw [hW.out]; exact cZ w _ _ _
 have hQ : W.rangeAt (w.heap.size + 1) 0 (aQ ⟨4, n, x, ax, cx, bs, ab, cb⟩) := by rw [hW.out]; exact iC ⟨4, n, x, ax, cx, bs, ab, cb⟩ w _ _ _
 have q0 : W.cell? ⟨w.heap.size + 1, 0, none⟩ = some (.int .i64 4) := hQ 0 _ rfl
 clear hW
 obtain ⟨d0, d1, d2, e0, e1, e2⟩ := hD.cells
 clear h hQ
 go_upto_region 13 with fail
 go_upto_region 14 with (go_at_call 37; (with_reducible refine (HR.out _ hb0).mono ?_); rintro e w1 ⟨a1, l1, c1, rfl, hin1, hc1, hl1, hb1⟩)
 have HL1 := Lib.hid hl1
 have lF := hZ.lt
 refine wp_name (fun W1 hW1 => ?_)
 have hX : B3 W1 w1.heap.size 62 (.slice a1 l1.length c1) (.int .i64 S1.arm) (.bool S1.down) := by rw [hW1.out]; exact aF w1 _
 have hbw : Below W.heap.size W W1 := by rw [hW1.out]; exact hb1.alloc hb1.size _
 have hb2 : Below w1.heap.size w1 W1 := by rw [hW1.out]; exact (Below.refl _ _).alloc (Nat.le_refl _) _
 replace hin1 := hin1.kept hb2
 replace hZ := hZ.below hbw
 replace hb0 := below2 hb0 hbw
 have hlt1 : w.heap.size + 1 + 1 < w1.heap.size := Nat.lt_of_lt_of_le lF hb1.size
 have hlt3 : w.heap.size + 1 + 1 < W1.drew.heap.size := Nat.lt_of_lt_of_le hlt1 hb2.size
 clear hW1 hb1 hbw hb2 hl1 d0 d1 d2 e0 e1 e2 hD q0
 have hn1 : ¬ F w1.heap.size := fun e => by have := (hF _ e).1; omega
 have hnq : ¬ F (w.heap.size + 1) := fun e => by have := (hF _ e).1; omega
 have hnz : ¬ F (w.heap.size + 1 + 1) := fun e => by have := (hF _ e).1; omega
 have HDk := Lib.hid (HD.out W1.drew D hb0.size hb0.drew (H0.out.below hb0.drew))
 have HX := Lib.hid hX
 have hX : B3 W1.drew w1.heap.size 62 (.slice a1 l1.length c1) (.int .i64 S1.arm) (.bool S1.down) := hX
 have hZ : B3 W1.drew (w.heap.size + 1 + 1) 62 (.slice none 0 0) (.int .i64 0) (.bool false) := hZ
 obtain ⟨x0, x1, x2, y0, y1, y2⟩ := hX.cells
 obtain ⟨z0, z1, z2, t0, t1, t2⟩ := hZ.cells
 have hnx : w.heap.size + 1 + 1 ≠ w1.heap.size := by omega
 have vw : w.heap.size + 1 + 1 ≠ w.heap.size + 1 := by omega
 have hcc : (c == c) = true := beq_self_eq_true c
 go_region_held3 (fun W' => W'.cell? ⟨w1.heap.size, 0, none⟩ = some (.slice a1 l1.length c1) ∧ W'.cell? ⟨w1.heap.size, 1, none⟩ = some (.int .i64 S1.arm) ∧ W'.cell? ⟨w1.heap.size, 2, none⟩ = some (.bool S1.down)) (first | exact ⟨hf2.kept x0 hn1, hf2.kept x1 hn1, hf2.kept x2 hn1⟩ | go_keep)
  (first | (go_at_call 16; (with_reducible refine HDk.out.mono ?_); rintro e w2 ⟨rfl, ⟨D2, hD2⟩, hf2⟩; have x0k := hf2.kept x0 hn1; have hZ2 := hZ.fr hf2 hnz; obtain ⟨z0, z1, z2, t0, t1, t2⟩ := hZ2.cells))
 all_goals
  clear x0 x1 x2 y0 y1 y2 x0k  z0 z1 z2 t0 t1 t2
  go_wp2
  refine dA 6 7 62 62 (w.heap.size + 1 + 1) _ _ _ rfl rfl rfl (((hZ2.set0 _).set1 _).set2 _) Tryz.underlying62 rfl (by kernel_rfl) rfl ?_
  exact ⟨iI a1 l1 c1 _ rfl (RFsIn.fr (T := F) (show RFsIn W1.drew a1 l1 from hin1.kept (Below.refl _ _).drew) hf2 (fun k hk => dG (hF k hk).2 ((hb0.drew).block k (hF k hk).1))) hc1 HL1.out hD2 hZ2 ((Fr.of_below hb0.drew).again hf2) (Nat.le_trans hb0.size (Nat.le_refl _)) (by omega) hnz hlt3, _, rfl⟩
theorem sG {a ab ax : Option Addr} {cap cb cx : Nat} {l : List RF} {x : Rec} {n : Int} {bs : Bytes} {S1 : DS} {c : Int} (h : DkIn w F d S b D) (hF : ∀ k, F k → k < w.heap.size ∧ NoByte w k ∧ NoStr w k)
 (HR : Hid (∀ X, Below w.heap.size w X → Calls Tryz.prog 39 #[aO a l.length cap S.arm S.down, .int .i64 n] X (eG S1 c X)))
 (HD : Hid (∀ X D, w.heap.size ≤ X.heap.size → Below w.heap.size w X → DkIn X F d S b D → Calls Tryz.prog 40 #[.pointer (some ⟨d, 0, none⟩), .int .i64 n] X (RetDk F d b S1 c X))) :
 Calls Tryz.prog 19 #[.pointer (some ⟨d, 0, none⟩), aO a l.length cap S.arm S.down, jh ⟨6, n, x, ax, cx, bs, ab, cb⟩] w (RetStepT F d b S1 w) := by
 have H0 := Lib.hid h
 go_enter Tryz.func19, Tryz.ntmps19
 go_upto_region 1 with fail
 refine wp_name (fun W hW => ?_)
 have hb0 : Below w.heap.size w W := by rw [hW.out]; go_grown
 have hD : B3 W w.heap.size 62 (.slice a l.length cap) (.int .i64 S.arm) (.bool S.down) := by
  exact z10
 have hZ : B3 W (w.heap.size + 1 + 1) 62 (.slice none 0 0) (.int .i64 0) (.bool false) := by rw [hW.out]; exact cZ w _ _ _
 have hQ : W.rangeAt (w.heap.size + 1) 0 (aQ ⟨6, n, x, ax, cx, bs, ab, cb⟩) := by rw [hW.out]; exact iC ⟨6, n, x, ax, cx, bs, ab, cb⟩ w _ _ _
 have q0 : W.cell? ⟨w.heap.size + 1, 0, none⟩ = some (.int .i64 6) := hQ 0 _ rfl
 clear hW
 obtain ⟨d0, d1, d2, e0, e1, e2⟩ := hD.cells
 have q1 : W.cell? ⟨w.heap.size + 1, 1, none⟩ = some (.int .i64 n) := hQ 1 _ rfl
 clear h hQ
 go_upto_region 19 with fail
 go_upto_region 20 with (go_at_call 39; (with_reducible refine (HR.out _ hb0).mono ?_); rintro e w1 ⟨a1, l1, c1, rfl, hin1, hc1, hl1, hb1⟩)
 have HL1 := Lib.hid hl1
 have lF := hZ.lt
 refine wp_name (fun W1 hW1 => ?_)
 have hX : B3 W1 w1.heap.size 62 (.slice a1 l1.length c1) (.int .i64 S1.arm) (.bool S1.down) := by rw [hW1.out]; exact aF w1 _
 have hbw : Below W.heap.size W W1 := by rw [hW1.out]; exact hb1.alloc hb1.size _
 have hb2 : Below w1.heap.size w1 W1 := by rw [hW1.out]; exact (Below.refl _ _).alloc (Nat.le_refl _) _
 replace hin1 := hin1.kept hb2
 replace hZ := hZ.below hbw
 replace hb0 := below2 hb0 hbw
 replace q1 := kept hbw q1
 have hlt1 : w.heap.size + 1 + 1 < w1.heap.size := Nat.lt_of_lt_of_le lF hb1.size
 have hlt3 : w.heap.size + 1 + 1 < W1.drew.heap.size := Nat.lt_of_lt_of_le hlt1 hb2.size
 clear hW1 hb1 hbw hb2 hl1 d0 d1 d2 e0 e1 e2 hD q0
 have hn1 : ¬ F w1.heap.size := fun e => by have := (hF _ e).1; omega
 have hnq : ¬ F (w.heap.size + 1) := fun e => by have := (hF _ e).1; omega
 have hnz : ¬ F (w.heap.size + 1 + 1) := fun e => by have := (hF _ e).1; omega
 have HDk := Lib.hid (HD.out W1.drew D hb0.size hb0.drew (H0.out.below hb0.drew))
 have HX := Lib.hid hX
 have hX : B3 W1.drew w1.heap.size 62 (.slice a1 l1.length c1) (.int .i64 S1.arm) (.bool S1.down) := hX
 have hZ : B3 W1.drew (w.heap.size + 1 + 1) 62 (.slice none 0 0) (.int .i64 0) (.bool false) := hZ
 obtain ⟨x0, x1, x2, y0, y1, y2⟩ := hX.cells
 obtain ⟨z0, z1, z2, t0, t1, t2⟩ := hZ.cells
 have q1 : W1.drew.cell? ⟨w.heap.size + 1, 1, none⟩ = some (.int .i64 n) := q1
 have hnx : w.heap.size + 1 + 1 ≠ w1.heap.size := by omega
 have vw : w.heap.size + 1 + 1 ≠ w.heap.size + 1 := by omega
 have hcc : (c == c) = true := beq_self_eq_true c
 go_region_held3 (fun W' => W'.cell? ⟨w1.heap.size, 0, none⟩ = some (.slice a1 l1.length c1) ∧ W'.cell? ⟨w1.heap.size, 1, none⟩ = some (.int .i64 S1.arm) ∧ W'.cell? ⟨w1.heap.size, 2, none⟩ = some (.bool S1.down) ∧ W'.cell? ⟨w.heap.size + 1, 1, none⟩ = some (.int .i64 n)) (first | exact ⟨hf2.kept x0 hn1, hf2.kept x1 hn1, hf2.kept x2 hn1, hf2.kept q1 hnq⟩ | go_keep)
  (first | (go_at_call 40; (with_reducible refine HDk.out.mono ?_); rintro e w2 ⟨rfl, ⟨D2, hD2⟩, hf2⟩; have x0k := hf2.kept x0 hn1; have hZ2 := hZ.fr hf2 hnz; obtain ⟨z0, z1, z2, t0, t1, t2⟩ := hZ2.cells))
 all_goals
  clear x0 x1 x2 y0 y1 y2 x0k q1 z0 z1 z2 t0 t1 t2
  go_wp2
  refine dA 6 7 62 62 (w.heap.size + 1 + 1) _ _ _ rfl rfl rfl (((hZ2.set0 _).set1 _).set2 _) Tryz.underlying62 rfl (by kernel_rfl) rfl ?_
  exact ⟨iI a1 l1 c1 _ rfl (RFsIn.fr (T := F) (show RFsIn W1.drew a1 l1 from hin1.kept (Below.refl _ _).drew) hf2 (fun k hk => dG (hF k hk).2 ((hb0.drew).block k (hF k hk).1))) hc1 HL1.out hD2 hZ2 ((Fr.of_below hb0.drew).again hf2) (Nat.le_trans hb0.size (Nat.le_refl _)) (by omega) hnz hlt3, _, rfl⟩
theorem oH {a ab ax : Option Addr} {cap cb cx : Nat} {l : List RF} {x : Rec} {n : Int} {bs : Bytes} {S1 : DS} {c : Int} (h : DkIn w F d S b D) (hF : ∀ k, F k → k < w.heap.size ∧ NoByte w k ∧ NoStr w k)
 (HR : Hid (∀ X, Below w.heap.size w X → Calls Tryz.prog 41 #[aO a l.length cap S.arm S.down, .string ⟨#[108, 111, 103]⟩, .slice ab bs.length cb] X (eG S1 c X)))
 (HD : Hid (∀ X D, w.heap.size ≤ X.heap.size → Below w.heap.size w X → DkIn X F d S b D → Calls Tryz.prog 23 #[.pointer (some ⟨d, 0, none⟩), .string ⟨#[108, 111, 103]⟩, .slice ab bs.length cb] X (RetDk F d b S1 c X))) :
 Calls Tryz.prog 19 #[.pointer (some ⟨d, 0, none⟩), aO a l.length cap S.arm S.down, jh ⟨7, n, x, ax, cx, bs, ab, cb⟩] w (RetStepT F d b S1 w) := by
 have H0 := Lib.hid h
 go_enter Tryz.func19, Tryz.ntmps19
 go_upto_region 1 with fail
 refine wp_name (fun W hW => ?_)
 have hb0 : Below w.heap.size w W := by rw [hW.out]; go_grown
 have hD : B3 W w.heap.size 62 (.slice a l.length cap) (.int .i64 S.arm) (.bool S.down) := by
  exact z10
 have hZ : B3 W (w.heap.size + 1 + 1) 62 (.slice none 0 0) (.int .i64 0) (.bool false) := by rw [hW.out]; exact cZ w _ _ _
 have hQ : W.rangeAt (w.heap.size + 1) 0 (aQ ⟨7, n, x, ax, cx, bs, ab, cb⟩) := by rw [hW.out]; exact iC ⟨7, n, x, ax, cx, bs, ab, cb⟩ w _ _ _
 have q0 : W.cell? ⟨w.heap.size + 1, 0, none⟩ = some (.int .i64 7) := hQ 0 _ rfl
 clear hW
 obtain ⟨d0, d1, d2, e0, e1, e2⟩ := hD.cells
 have q23 : W.cell? ⟨w.heap.size + 1, 23, none⟩ = some (.slice ab bs.length cb) := hQ 23 _ rfl
 clear h hQ
 go_upto_region 22 with fail
 go_upto_region 23 with (go_at_call 41; (with_reducible refine (HR.out _ hb0).mono ?_); rintro e w1 ⟨a1, l1, c1, rfl, hin1, hc1, hl1, hb1⟩)
 have HL1 := Lib.hid hl1
 have lF := hZ.lt
 refine wp_name (fun W1 hW1 => ?_)
 have hX : B3 W1 w1.heap.size 62 (.slice a1 l1.length c1) (.int .i64 S1.arm) (.bool S1.down) := by rw [hW1.out]; exact aF w1 _
 have hbw : Below W.heap.size W W1 := by rw [hW1.out]; exact hb1.alloc hb1.size _
 have hb2 : Below w1.heap.size w1 W1 := by rw [hW1.out]; exact (Below.refl _ _).alloc (Nat.le_refl _) _
 replace hin1 := hin1.kept hb2
 replace hZ := hZ.below hbw
 replace hb0 := below2 hb0 hbw
 replace q23 := kept hbw q23
 have hlt1 : w.heap.size + 1 + 1 < w1.heap.size := Nat.lt_of_lt_of_le lF hb1.size
 have hlt3 : w.heap.size + 1 + 1 < W1.drew.heap.size := Nat.lt_of_lt_of_le hlt1 hb2.size
 clear hW1 hb1 hbw hb2 hl1 d0 d1 d2 e0 e1 e2 hD q0
 have hn1 : ¬ F w1.heap.size := fun e => by have := (hF _ e).1; omega
 have hnq : ¬ F (w.heap.size + 1) := fun e => by have := (hF _ e).1; omega
 have hnz : ¬ F (w.heap.size + 1 + 1) := fun e => by have := (hF _ e).1; omega
 have HDk := Lib.hid (HD.out W1.drew D hb0.size hb0.drew (H0.out.below hb0.drew))
 have HX := Lib.hid hX
 have hX : B3 W1.drew w1.heap.size 62 (.slice a1 l1.length c1) (.int .i64 S1.arm) (.bool S1.down) := hX
 have hZ : B3 W1.drew (w.heap.size + 1 + 1) 62 (.slice none 0 0) (.int .i64 0) (.bool false) := hZ
 obtain ⟨x0, x1, x2, y0, y1, y2⟩ := hX.cells
 obtain ⟨z0, z1, z2, t0, t1, t2⟩ := hZ.cells
 have q23 : W1.drew.cell? ⟨w.heap.size + 1, 23, none⟩ = some (.slice ab bs.length cb) := q23
 have hnx : w.heap.size + 1 + 1 ≠ w1.heap.size := by omega
 have vw : w.heap.size + 1 + 1 ≠ w.heap.size + 1 := by omega
 have hcc : (c == c) = true := beq_self_eq_true c
 go_region_held3 (fun W' => W'.cell? ⟨w1.heap.size, 0, none⟩ = some (.slice a1 l1.length c1) ∧ W'.cell? ⟨w1.heap.size, 1, none⟩ = some (.int .i64 S1.arm) ∧ W'.cell? ⟨w1.heap.size, 2, none⟩ = some (.bool S1.down) ∧ W'.cell? ⟨w.heap.size + 1, 23, none⟩ = some (.slice ab bs.length cb)) (first | exact ⟨hf2.kept x0 hn1, hf2.kept x1 hn1, hf2.kept x2 hn1, hf2.kept q23 hnq⟩ | go_keep)
  (first | (go_at_call 23; (with_reducible refine HDk.out.mono ?_); rintro e w2 ⟨rfl, ⟨D2, hD2⟩, hf2⟩; have x0k := hf2.kept x0 hn1; have hZ2 := hZ.fr hf2 hnz; obtain ⟨z0, z1, z2, t0, t1, t2⟩ := hZ2.cells))
 all_goals
  clear x0 x1 x2 y0 y1 y2 x0k q23 z0 z1 z2 t0 t1 t2
  go_wp2
  refine dA 6 7 62 62 (w.heap.size + 1 + 1) _ _ _ rfl rfl rfl (((hZ2.set0 _).set1 _).set2 _) Tryz.underlying62 rfl (by kernel_rfl) rfl ?_
  exact ⟨iI a1 l1 c1 _ rfl (RFsIn.fr (T := F) (show RFsIn W1.drew a1 l1 from hin1.kept (Below.refl _ _).drew) hf2 (fun k hk => dG (hF k hk).2 ((hb0.drew).block k (hF k hk).1))) hc1 HL1.out hD2 hZ2 ((Fr.of_below hb0.drew).again hf2) (Nat.le_trans hb0.size (Nat.le_refl _)) (by omega) hnz hlt3, _, rfl⟩
variable {F : Nat → Prop} {d : Nat} {S : DS} {b : Nat} {D : DataW Unit} {w w' : World}
theorem sW {S1 : DS} {e : Ending} {w1 w2 : World} {z : Nat} {t : TypeId} (a : Option Addr) (l : List RF) (cap : Nat) (ok : Bool) {D2 : DataW Unit} (he : e = .returned (.tuple #[aO a l.length cap S1.arm S1.down, .bool ok]))
 (hin : RFsIn w2 a l) (hc : l.length ≤ cap) (hl : az l = S1.f) (hD : DkIn w2 (grow F w1) d S1 b D2) (hZ : B3 w2 z t (.slice none 0 0) (.int .i64 0) (.bool false)) (hf : Fr F w w2) (hs : w.heap.size ≤ w1.heap.size) (hz : w.heap.size ≤ z) (hnz : ¬ F z) (hlt : z < w1.heap.size) {cs : Array Value} :
 kJ F d b S1 w e (w2.setRow z cs) := by
 have hset : Fr (isR z) w2 (w2.setRow z cs) := dw _ _ _
 have hb := hZ.noByte ⟨trivial, trivial, trivial⟩
 have hst := hZ.noStr ⟨trivial, trivial, trivial⟩
 refine ⟨a, l, cap, ok, he, hin.fr hset (fun k hk => by subst hk; exact ⟨hb, hst⟩), hc, hl, ⟨D2, ?_⟩, ?_⟩
 ·exact z25
 ·exact z34
theorem jg {a ab ax : Option Addr} {cap cb cx : Nat} {l : List RF} {x : Rec} {n : Int} {bs : Bytes} {S1 : DS} {c : Int} (h : DkIn w F d S b D) (hF : ∀ k, F k → k < w.heap.size ∧ NoByte w k ∧ NoStr w k)
 (HR : Hid (∀ X, Below w.heap.size w X → Calls Tryz.prog 34 #[aO a l.length cap S.arm S.down, aU x ax cx] X (eG S1 c X)))
 (HD : Hid (∀ X D, w.heap.size ≤ X.heap.size → Below w.heap.size w X → DkIn X F d S b D → Calls Tryz.prog 9 #[.pointer (some ⟨d, 0, none⟩), aU x ax cx] X (RetDk F d b S1 c X))) :
 Calls Tryz.prog 19 #[.pointer (some ⟨d, 0, none⟩), aO a l.length cap S.arm S.down, jh ⟨1, n, x, ax, cx, bs, ab, cb⟩] w (RetStepT F d b S1 w) := by
 have H0 := Lib.hid h
 go_enter Tryz.func19, Tryz.ntmps19
 go_upto_region 1 with fail
 refine wp_name (fun W hW => ?_)
 have hb0 : Below w.heap.size w W := by rw [hW.out]; go_grown
 have hD : B3 W w.heap.size 62 (.slice a l.length cap) (.int .i64 S.arm) (.bool S.down) := by
  exact z10
 have hZ : B3 W (w.heap.size + 1 + 1) 62 (.slice none 0 0) (.int .i64 0) (.bool false) := by rw [hW.out]; exact cZ w _ _ _
 have hQ : W.rangeAt (w.heap.size + 1) 0 (aQ ⟨1, n, x, ax, cx, bs, ab, cb⟩) := by rw [hW.out]; exact iC ⟨1, n, x, ax, cx, bs, ab, cb⟩ w _ _ _
 have q0 : W.cell? ⟨w.heap.size + 1, 0, none⟩ = some (.int .i64 1) := hQ 0 _ rfl
 clear hW
 obtain ⟨d0, d1, d2, e0, e1, e2⟩ := hD.cells
 have hQr := xg hQ
 clear h hQ
 go_upto_region 3 with fail
 go_upto_region 4 with (first
  | ((with_reducible refine wpList_load_to 41 _ (w.heap.size + 1) 2 (ah x ax cx) (aU x ax cx) rfl _ Tryz.underlying41 rfl (by kernel_rfl) hQr ?_ rfl ?_); exact rfl)
  | (go_at_call 34; (with_reducible refine (HR.out _ hb0).mono ?_); rintro e w1 ⟨a1, l1, c1, rfl, hin1, hc1, hl1, hb1⟩))
 have HL1 := Lib.hid hl1
 have lF := hZ.lt
 refine wp_name (fun W1 hW1 => ?_)
 have hX : B3 W1 w1.heap.size 62 (.slice a1 l1.length c1) (.int .i64 S1.arm) (.bool S1.down) := by rw [hW1.out]; exact aF w1 _
 have hbw : Below W.heap.size W W1 := by rw [hW1.out]; exact hb1.alloc hb1.size _
 have hb2 : Below w1.heap.size w1 W1 := by rw [hW1.out]; exact (Below.refl _ _).alloc (Nat.le_refl _) _
 replace hin1 := hin1.kept hb2
 replace hZ := hZ.below hbw
 replace hb0 := below2 hb0 hbw
 replace hQr := rangeAt_kept hQr hbw
 have hlt1 : w.heap.size + 1 + 1 < w1.heap.size := Nat.lt_of_lt_of_le lF hb1.size
 have hlt3 : w.heap.size + 1 + 1 < W1.drew.heap.size := Nat.lt_of_lt_of_le hlt1 hb2.size
 clear hW1 hb1 hbw hb2 hl1 d0 d1 d2 e0 e1 e2 hD q0
 have hn1 : ¬ F w1.heap.size := fun e => by have := (hF _ e).1; omega
 have hnq : ¬ F (w.heap.size + 1) := fun e => by have := (hF _ e).1; omega
 have hnz : ¬ F (w.heap.size + 1 + 1) := fun e => by have := (hF _ e).1; omega
 have hXr : W1.drew.rangeAt w1.heap.size 0 [.slice a1 l1.length c1, .int .i64 S1.arm, .bool S1.down] := hX.range
 have hQd : W1.drew.rangeAt (w.heap.size + 1) 2 (ah x ax cx) := hQr
 have hZ : B3 W1.drew (w.heap.size + 1 + 1) 62 (.slice none 0 0) (.int .i64 0) (.bool false) := hZ
 have hnx : w1.heap.size ≠ w.heap.size + 1 + 1 := by omega
 have vw : w.heap.size + 1 ≠ w.heap.size + 1 + 1 := by omega
 have hbd : Below w.heap.size w W1.drew := hb0.drew
 have hcc : (c == c) = true := beq_self_eq_true c
 have yK : RFsIn W1.drew a1 l1 := hin1.kept (Below.refl _ _).drew
 have HDk := Lib.hid (show Calls Tryz.prog 9 #[.pointer (some ⟨d, 0, none⟩), .agg (ah x ax cx).toArray] W1.drew (RetDk F d b S1 c W1.drew) from HD.out W1.drew D hbd.size hbd (H0.out.below hbd))
 refine wp_region_noPanic ?_
 refine wp_region_held_drew (S := fun W' => W'.rangeAt w1.heap.size 0 [.slice a1 l1.length c1, .int .i64 S1.arm, .bool S1.down] ∧ W'.rangeAt (w.heap.size + 1) 2 (ah x ax cx)) (by kernel_rfl) ⟨hXr, hQd⟩ (fun hHeld => ?_)
 refine tH 0 36 rfl (yieldsIf_load_mid (by rfl) 62 _ rfl w1.heap.size 0 rfl [.slice a1 l1.length c1, .int .i64 S1.arm, .bool S1.down] _ (fun X h => h.1) Tryz.underlying62 rfl (by kernel_rfl)) ?_
 try simp only [pS]
 refine tH (v := ?_) 1 37 rfl (Or.inl ⟨by rfl, ?_⟩) ?_
 case refine_2 => exact z2
 try simp only [pS]
 refine tH (v := ?_) 2 38 rfl (Or.inl ⟨by rfl, ?_⟩) ?_
 case refine_2 => exact z2
 try simp only [pS]
 refine tH 3 39 rfl (yieldsIf_load_mid (by rfl) 41 _ rfl (w.heap.size + 1) 2 rfl (ah x ax cx) _ (fun X h => h.2) Tryz.underlying41 rfl (by kernel_rfl)) ?_
 try simp only [pS]
 refine tH (v := ?_) 5 41 rfl (Or.inl ⟨by rfl, ?_⟩) ?_
 case refine_2 => exact z2
 try simp only [pS]
 refine rH 4 40 rfl fun K hK => ?_
 (go_simp; go_at_call 9; (with_reducible refine HDk.out.mono ?_); rintro v w2 ⟨rfl, ⟨D2, hD2⟩, hf2⟩; go_wp2_with fail)
 have yt := bT hXr hf2 hn1
 have yu := bT hQd hf2 hnq
 refine hK.out _ _ ⟨yt, yu⟩ (fun ai => ?_)
 clear hK K hHeld
 have hHeld := ai
 clear ai
 try simp only [pS]
 have hZ2 := hZ.fr hf2 hnz
 refine tH (v := ?_) 6 42 rfl (Or.inl ⟨by rfl, ?_⟩) ?_
 case refine_2 => exact z2
 try simp only [pS]
 refine wpAnyH_ready (rs := [7]) (by kernel_rfl) (by simp) ?_
 refine AllReadyH.cons (o := ⟨none, _, _, _, _, _⟩) rfl (fun K hK => ?_) AllReadyH.nil
 refine aP (by rfl) 62 _ _ rfl (w.heap.size + 1 + 1) #[.slice a1 l1.length c1, .int .i64 S1.arm, .bool S1.down] rfl rfl 62 _ hZ2 (by kernel_rfl) rfl (by kernel_rfl) ?_
 refine hK.out _ _ ⟨bP yt hnx, bP yu vw⟩ (fun ai => ?_)
 clear hK K hHeld
 have hHeld := ai
 clear ai
 try simp only [pS]
 refine tH (v := ?_) 8 7 rfl (Or.inl ⟨by rfl, ?_⟩) ?_
 case refine_2 => exact z2
 try simp only [pS]
 refine wpAnyH_done (by kernel_rfl) ?_ _
 refine NoPanic.normal ?_
 go_wp2
 refine dA 6 7 62 62 (w.heap.size + 1 + 1) _ _ _ rfl rfl rfl (hZ2.row _ _ _) Tryz.underlying62 rfl (by kernel_rfl) rfl ?_
 exact ⟨sW a1 l1 c1 _ rfl (RFsIn.fr (T := F) yK hf2 (fun k hk => dG (hF k hk).2 (hbd.block k (hF k hk).1))) hc1 HL1.out hD2 hZ2 ((Fr.of_below hbd).again hf2) hbd.size (by omega) hnz hlt3, _, rfl⟩
end Go.Proofs.YtlefejokpdjpgaaGreat
