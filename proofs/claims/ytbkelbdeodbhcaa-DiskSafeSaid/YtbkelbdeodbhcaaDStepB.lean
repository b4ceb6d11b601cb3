/- The disk's law: a crash as a step; any step. Conditions: as in the text. -/
import Derived.Test.YtbkelbdeodbhcaaDStep
import Derived.Test.YtbkelbdeodbhcaaDRefE
import Derived.Test.YtbkelbdeodbhcaaDRefG
set_option linter.unusedSimpArgs false
set_option linter.unusedVariables false
set_option linter.unnecessarySimpa false
namespace Go.Proofs.Ytbkelbdeodbhcaa
open Go.RowKit

variable {F : Nat → Prop} {d : Nat} {S : DS} {b : Nat} {D : DataW Unit} {w w' : World}
/-- a row stored whole, above all that was there -/
theorem ret_stepR {S1 : DS} {e : Ending} {w2 : World} {z : Nat} {t : TypeId} (a : Option Addr) (l : List RF) (cap : Nat) (ok : Bool) {D2 : DataW Unit} (he : e = .returned (.tuple #[rdkVal a l.length cap S1.arm S1.down, .bool ok]))
    (hin : RFsIn w2 a l) (hc : l.length ≤ cap) (hl : rfsOf l = S1.f) (hD : DkIn w2 F d S1 b D2) (hZ : B3 w2 z t (.slice none 0 0) (.int .i64 0) (.bool false)) (hf : Fr F w w2) (hz : w.heap.size ≤ z) (hnz : ¬ F z) {cs : Array Value} :
    RetStep F d b S1 w e (w2.setRow z cs) := by
  have hset : Fr (isR z) w2 (w2.setRow z cs) := fr_row _ _ _
  have hb := hZ.noByte ⟨trivial, trivial, trivial⟩
  have hst := hZ.noStr ⟨trivial, trivial, trivial⟩
  refine ⟨a, l, cap, ok, he, hin.fr hset (fun k hk => by subst hk; exact ⟨hb, hst⟩), hc, hl, ⟨D2, ?_⟩, ?_⟩
  · exact (DkIn.fr hD hset (fun k hk => by subst hk; exact hb) (fun k hk e => by subst e; exact hnz hk)).mono fun k hk => Or.inl hk
  · exact hf.trans (hset.mono fun k _ hk => by subst hk; exact Or.inr hz)
set_option maxRecDepth 100000 in
set_option maxHeartbeats 2000000 in
theorem step_crash {a ab al : Option Addr} {cap cb cl : Nat} {l : List RF} {nm dst : ByteArray} {n : Int} {bs : Bytes} {kl : Ks} (h : DkIn w F d S b D) (hi : DInv S) (hF : ∀ k, F k → k < w.heap.size ∧ NoByte w k ∧ NoStr w k)
    (hin : RFsIn w a l) (hl : rfsOf l = S.f) (hkl : kl.length ≤ 1048576) (hks : KsOk kl) (hk : CellsIn w al (kcs kl)) :
    Calls Try.prog 9 #[.pointer (some ⟨d, 0, none⟩), rdkVal a l.length cap S.arm S.down, stVal ⟨6, n, nm, dst, bs, ab, cb, kl, al, cl⟩] w (RetStep F d b (S.crash kl) w) := by
  have hll : l.length ≤ 16777216 := by have := congrArg List.length hl; rw [List.length_map] at this; have := hi.len; omega
  have hok : ∀ g ∈ l, g.f.safe ≤ g.f.b.length ∧ g.f.b.length ≤ 1073741824 := fun g hg => by
    have := hi.ok g.f (by rw [← hl]; exact List.mem_map_of_mem hg)
    exact ⟨this.safe, Nat.le_trans this.len (by decide)⟩
  go_enter Try.func9, Try.ntmps9
  go_upto_region 1 with fail
  refine wp_name (fun W hW => ?_)
  have hb0 : Below w.heap.size w W := by rw [hW.out]; go_grown
  have hD : B3 W w.heap.size 29 (.slice a l.length cap) (.int .i64 S.arm) (.bool S.down) := by
    rw [hW.out]; exact (((Below.refl (w.heap.size + 1) _).alloc (by simp) _).alloc (by simp) _) |>.block _ (by simp) |>.trans (heap_last0 w _)
  have hZ : B3 W (w.heap.size + 1 + 1) 29 (.slice none 0 0) (.int .i64 0) (.bool false) := by rw [hW.out]; exact heap_last2 w _ _ _
  have q0 : W.cell? ⟨w.heap.size + 1, 0, none⟩ = some (.int .i64 6) := by rw [hW.out]; go_simp
  have q5 : W.cell? ⟨w.heap.size + 1, 5, none⟩ = some (.slice al kl.length cl) := by rw [hW.out]; go_simp
  clear hW
  obtain ⟨d0, d1, d2, e0, e1, e2⟩ := hD.cells
  have HC := Lib.hid (Crash_any (ak := al) (ck := cl) kl (h.below hb0) hi hkl hks (hk.kept hb0))
  have hnz : ¬ F (w.heap.size + 1 + 1) := fun e => by have := (hF _ e).1; omega
  have hnq : ¬ F (w.heap.size + 1) := fun e => by have := (hF _ e).1; omega
  have hnd : ¬ F w.heap.size := fun e => by have := (hF _ e).1; omega
  go_upto_region 22 with (go_at_call 17; (with_reducible refine HC.out.mono ?_); rintro e w2 ⟨rfl, hD2, hf2⟩)
  have hk2 : CellsIn w2 al (kcs kl) := (hk.kept hb0).frS hf2 (fun k e => (plain_kept (hF k e).2 (hb0.block k (hF k e).1)).2) (kcs_head kl)
  have hin2 : RFsIn w2 a l := (hin.kept hb0).fr hf2 (fun k e => plain_kept (hF k e).2 (hb0.block k (hF k e).1))
  have hDb := hD.fr hf2 hnd
  have hZ2 := hZ.fr hf2 hnz
  have q52 := hf2.kept q5 hnq
  have hf02 : Fr F w w2 := (Fr.of_below hb0).again hf2
  clear d0 d1 d2 e0 e1 e2 hD hZ q0 q5
  obtain ⟨d0, d1, d2, e0, e1, e2⟩ := hDb.cells
  have HL := Lib.hid (lawCrash_any a al cap cl S.arm S.down l kl w2 hll hkl hok hin2 hk2)
  go_wp2_with (first
    | (go_at_call 20; (with_reducible refine HL.out.mono ?_); rintro e w4 ⟨a4, l4, c4, rfl, hin4, hc4, hl4, hb4⟩; have HL4 := Lib.hid hl4; clear hl4; have hZ4 := hZ2.below hb4)
    | (refine wpList_store_row rfl 29 _ _ rfl (w.heap.size + 1 + 1) #[.slice a4 l4.length c4, .int .i64 0, .bool false] rfl rfl 29 _ hZ4 (by kernel_rfl) rfl (by kernel_rfl) ?_)
    )
  refine retCT 6 7 29 29 (w.heap.size + 1 + 1) _ _ _ rfl rfl rfl (hZ4.row _ _ _) Try.underlying29 rfl (by kernel_rfl) rfl ?_
  exact ret_stepR (S1 := S.crash kl) a4 l4 c4 _ rfl hin4 hc4 (by rw [HL4.out, hl]; rfl) (hD2.below hb4) hZ4 (hf02.again (Fr.of_below hb4)) (by omega) hnz
set_option maxRecDepth 100000 in
set_option maxHeartbeats 2000000 in
theorem step_none {a ab al : Option Addr} {cap cb cl : Nat} {l : List RF} {nm dst : ByteArray} {n kd : Int} {bs : Bytes} {kl : Ks} (h : DkIn w F d S b D) (hF : ∀ k, F k → k < w.heap.size ∧ NoByte w k ∧ NoStr w k)
    (hin : RFsIn w a l) (hlc : l.length ≤ cap) (hl : rfsOf l = S.f) (hk : kd ≠ 1 ∧ kd ≠ 2 ∧ kd ≠ 3 ∧ kd ≠ 4 ∧ kd ≠ 5 ∧ kd ≠ 8 ∧ kd ≠ 6) :
    Calls Try.prog 9 #[.pointer (some ⟨d, 0, none⟩), rdkVal a l.length cap S.arm S.down, stVal ⟨kd, n, nm, dst, bs, ab, cb, kl, al, cl⟩] w (RetStep F d b S w) := by
  obtain ⟨k1, k2, k3, k4, k5, k8, k6⟩ := hk
  have r1 : (kd == 1) = false := beq_eq_false_iff_ne.2 k1
  have r2 : (kd == 2) = false := beq_eq_false_iff_ne.2 k2
  have r3 : (kd == 3) = false := beq_eq_false_iff_ne.2 k3
  have r4 : (kd == 4) = false := beq_eq_false_iff_ne.2 k4
  have r5 : (kd == 5) = false := beq_eq_false_iff_ne.2 k5
  have r8 : (kd == 8) = false := beq_eq_false_iff_ne.2 k8
  have r6 : (kd == 6) = false := beq_eq_false_iff_ne.2 k6
  have hnz : ¬ F (w.heap.size + 1 + 1) := fun e => by have := (hF _ e).1; omega
  clear k1 k2 k3 k4 k5 k8 k6
  go_enter Try.func9, Try.ntmps9
  go_upto_region 1 with fail
  refine wp_name (fun W hW => ?_)
  have hb0 : Below w.heap.size w W := by rw [hW.out]; go_grown
  have hD : B3 W w.heap.size 29 (.slice a l.length cap) (.int .i64 S.arm) (.bool S.down) := by
    rw [hW.out]; exact (((Below.refl (w.heap.size + 1) _).alloc (by simp) _).alloc (by simp) _) |>.block _ (by simp) |>.trans (heap_last0 w _)
  have hZ : B3 W (w.heap.size + 1 + 1) 29 (.slice none 0 0) (.int .i64 0) (.bool false) := by rw [hW.out]; exact heap_last2 w _ _ _
  have q0 : W.cell? ⟨w.heap.size + 1, 0, none⟩ = some (.int .i64 kd) := by rw [hW.out]; go_simp
  have q5 : W.cell? ⟨w.heap.size + 1, 5, none⟩ = some (.slice al kl.length cl) := by rw [hW.out]; go_simp
  clear hW
  obtain ⟨d0, d1, d2, e0, e1, e2⟩ := hD.cells
  go_wp2_with (refine wpList_store_row rfl 29 _ _ rfl (w.heap.size + 1 + 1) #[.slice a l.length cap, .int .i64 S.arm, .bool S.down] rfl rfl 29 _ hZ (by kernel_rfl) rfl (by kernel_rfl) ?_)
  refine retCT 6 7 29 29 (w.heap.size + 1 + 1) _ _ _ rfl rfl rfl (hZ.row _ _ _) Try.underlying29 rfl (by kernel_rfl) rfl ?_
  exact ret_stepR a l cap _ rfl (hin.kept hb0) hlc hl (h.below hb0) hZ (Fr.of_below hb0) (by omega) hnz
/-- a step is short -/
structure Light (s : StepIt) : Prop where
  name : s.name.size ≤ 100
  dst : s.dst.size ≤ 100
  b : s.b.length ≤ 300
  l : s.l.length ≤ 30
/-- ANY STEP -/
theorem step_any {a : Option Addr} {cap : Nat} {l : List RF} (s : StepIt) (h : DkIn w F d S b D) (hi : DInv S) (hF : ∀ k, F k → k < w.heap.size ∧ NoByte w k ∧ NoStr w k) (hin : RFsIn w a l) (hlc : l.length ≤ cap) (hl : rfsOf l = S.f) (hs : StepIn w s) (hL : Light s) :
    Calls Try.prog 9 #[.pointer (some ⟨d, 0, none⟩), rdkVal a l.length cap S.arm S.down, stVal s] w (RetStep F d b (S.step s) w) := by
  have hll : l.length ≤ 16777216 := by have := congrArg List.length hl; rw [List.length_map] at this; have := hi.len; omega
  have hrf : ∀ f, getF (rfsOf l) s.name = some f → f.b.length ≤ 16777216 := fun f hf => (hi.ok f (by rw [← hl]; exact getF_mem hf)).len
  have hgb : ∀ g ∈ l, g.f.b.length ≤ 16777216 := fun g hg => (hi.ok g.f (by rw [← hl]; exact List.mem_map_of_mem hg)).len
  have hSl : (⟨rfsOf l, S.arm, S.down⟩ : DS) = S := by rw [hl]
  obtain ⟨kd, n, nm, dst, bs, ab, cb, kl, al, cl⟩ := s
  obtain ⟨hnm, hdst, hbs, hks, hko, hbl, hkl⟩ := hs
  obtain ⟨L1, L2, L3, L4⟩ := hL
  simp only at hnm hdst hbs hks hko hbl hkl L1 L2 L3 L4 hrf
  by_cases k1 : kd = 1
  · subst k1
    have he : S.step ⟨1, n, nm, dst, bs, ab, cb, kl, al, cl⟩ = (S.append nm bs).1 := by unfold DS.step; rw [if_pos rfl]
    rw [he]
    refine step_append (c := (S.append nm bs).2) h hF (Lib.hid fun X hb => ?_) (Lib.hid fun X D hz hb hX => Append_any hnm hX hi (by omega) (hbs.kept hb))
    have := rAppend_any a ab cap cb S.arm S.down l nm bs X hll hlc hi.arm hnm hrf (by omega) (hin.kept hb) (hbs.kept hb)
    rwa [hSl] at this
  by_cases k2 : kd = 2
  · subst k2
    have he : S.step ⟨2, n, nm, dst, bs, ab, cb, kl, al, cl⟩ = (S.sync nm).1 := by unfold DS.step; rw [if_neg k1, if_pos rfl]
    rw [he]
    refine step_sync (c := (S.sync nm).2) h hF (Lib.hid fun X hb => ?_) (Lib.hid fun X D hz hb hX => Sync_any hnm hX hi.arm)
    have := rSync_any a cap S.arm S.down l nm X hll hlc hi.arm hnm (hin.kept hb)
    rwa [hSl, sync_eq hi.srt] at this
  by_cases k3 : kd = 3
  · subst k3
    have he : S.step ⟨3, n, nm, dst, bs, ab, cb, kl, al, cl⟩ = (S.trunc nm n).1 := by unfold DS.step; rw [if_neg k1, if_neg k2, if_pos rfl]
    rw [he]
    refine step_trunc (c := (S.trunc nm n).2) h hF (Lib.hid fun X hb => ?_) (Lib.hid fun X D hz hb hX => Truncate_any hnm hX hi.arm (fun f hf => Nat.le_trans (hi.ok f (getF_mem hf)).len (by decide)))
    have := rTrunc_any a cap S.arm S.down l nm n X hll hlc hi.arm hnm hgb (hin.kept hb)
    rwa [hSl, trunc_eq hi.srt] at this
  by_cases k4 : kd = 4
  · subst k4
    have he : S.step ⟨4, n, nm, dst, bs, ab, cb, kl, al, cl⟩ = (S.rename nm dst).1 := by unfold DS.step; rw [if_neg k1, if_neg k2, if_neg k3, if_pos rfl]
    rw [he]
    refine step_rename (c := (S.rename nm dst).2) h hF (Lib.hid fun X hb => ?_) (Lib.hid fun X D hz hb hX => Rename_any hnm hdst hX hi.srt.uniq hi.arm hi.len)
    have := rRename_any30 a cap S.arm S.down l nm dst X hll hlc hi.arm hnm hdst (hin.kept hb)
    rwa [hSl] at this
  by_cases k5 : kd = 5
  · subst k5
    have he : S.step ⟨5, n, nm, dst, bs, ab, cb, kl, al, cl⟩ = (S.remove nm).1 := by unfold DS.step; rw [if_neg k1, if_neg k2, if_neg k3, if_neg k4, if_pos rfl]
    rw [he]
    refine step_remove (c := (S.remove nm).2) h hF (Lib.hid fun X hb => ?_) (Lib.hid fun X D hz hb hX => Remove_any hnm hX hi.srt.uniq hi.arm)
    have := rRemove_any30 a cap S.arm S.down l nm X hll hlc hi.arm hnm (hin.kept hb)
    rwa [hSl] at this
  by_cases k8 : kd = 8
  · subst k8
    have he : S.step ⟨8, n, nm, dst, bs, ab, cb, kl, al, cl⟩ = (S.rarm n).1 := by unfold DS.step; rw [if_neg k1, if_neg k2, if_neg k3, if_neg k4, if_neg k5, if_pos rfl]
    rw [he]
    exact step_arm (c := (S.rarm n).2) h hF (Lib.hid fun X hb => rArm_rd a cap l n hlc hl (hin.kept hb)) (Lib.hid fun X D hz hb hX => Arm_dk n hX)
  by_cases k6 : kd = 6
  · subst k6
    have he : S.step ⟨6, n, nm, dst, bs, ab, cb, kl, al, cl⟩ = S.crash kl := by unfold DS.step; rw [if_neg k1, if_neg k2, if_neg k3, if_neg k4, if_neg k5, if_neg k8, if_pos rfl]
    rw [he]
    exact step_crash h hi hF hin hl (by omega) hko hks
  · have he : S.step ⟨kd, n, nm, dst, bs, ab, cb, kl, al, cl⟩ = S := by unfold DS.step; rw [if_neg k1, if_neg k2, if_neg k3, if_neg k4, if_neg k5, if_neg k8, if_neg k6]
    rw [he]
    exact step_none h hF hin hlc hl ⟨k1, k2, k3, k4, k5, k8, k6⟩
end Go.Proofs.Ytbkelbdeodbhcaa
