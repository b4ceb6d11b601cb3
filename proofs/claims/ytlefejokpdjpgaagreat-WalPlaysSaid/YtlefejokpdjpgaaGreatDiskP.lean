/- The disk: Append to a file that was not there. Conditions: as in the text. -/
import Derived.Test.YtlefejokpdjpgaaGreatDiskL
import Derived.Test.YtlefejokpdjpgaaGreatDiskIter
set_option linter.unusedSimpArgs false
set_option linter.unusedVariables false
set_option linter.unnecessarySimpa false
set_option maxHeartbeats 16000000
set_option maxRecDepth 100000
namespace Go.Proofs.YtlefejokpdjpgaaGreat
open Go.RowKit
variable {F : Nat → Prop} {d : Nat} {S : DS} {b : Nat} {D : DataW Unit} {s : ByteArray} {w w' : World}
theorem DkIn.below (h : DkIn w F d S b D) (hb : Below w.heap.size w w') : DkIn w' F d S b D :=
 h.fr (T := fun _ => False) (Fr.of_below hb) (fun _ g => g.elim) (fun _ _ g => g)
theorem DkIn.tight (h : DkIn w F d S b D) : DkIn w (fun k => F k ∧ k < w.heap.size) d S b D :=
 ⟨⟨h.fd, Fr.lt h.cells⟩, h.cells, ⟨h.fb, h.own.lt⟩, h.own, h.files.none, fun s f hg => let ⟨fb, h1, h2, h3⟩ := h.files.some s f hg; ⟨fb, ⟨h1, let ⟨_, _, e, _⟩ := h3; Fr.lt e⟩, h2, h3⟩, h.files.apart, h.files.has, h.files.size⟩
theorem FileAt.noByte {fb : Nat} {f : DF} (h : FileAt w fb f) : ∀ k, isR fb k → NoByte w k := fun k hk => by
 subst hk
 obtain ⟨a, cap, h1, _⟩ := h
 exact NoByte.file h1
theorem file_new (w : World) (s : ByteArray) : FileAt (w.alloc (.cells #[.slice none 0 0, .int .i64 0] 88)) w.heap.size ⟨s, [], 0⟩ :=
 ⟨none, 0, (MapKept.heap_alloc w _).1, Or.inl rfl, Nat.le_refl _⟩
theorem Append_none {a2 : Option Addr} {l : Bytes} {cap2 : Nat} (hs : s.size ≤ maxLen) (h : DkIn w F d S b D) (hu : Uniq S.f) (ha : S.arm ≤ 1048576) (hok : nameOk s = true) (hg : getF S.f s = none) (hl : l.length ≤ 1073741824)
 (hin : BytesIn w a2 l) :
 Calls Tryz.prog 23 #[.pointer (some ⟨d, 0, none⟩), .string s, .slice a2 l.length cap2] w (RetDk F d b (S.append s l).1 (S.append s l).2 w) := by
 have HN := Lib.hid (find_none hs h hok hg)
 have HD := Lib.hid h
 have HG := Lib.hid hg
 have HU := Lib.hid hu
 obtain ⟨q0, q1, q2, g0, g1, g2⟩ := three_cell h.cells
 have hlm := fun ty => h.own.len Tryz.underlying71 ty
 rw [h.files.size] at hlm
 by_cases h8 : 8 ≤ S.f.length
 case pos =>
  have hr : S.append s l = (S, 9) := by unfold DS.append; rw [if_pos hok, hg]; exact if_pos h8
  rw [hr]
  clear h hok hr hg hu
  go_enter Tryz.func23, Tryz.ntmps23
  go_wp2_with (go_at_call 51; (with_reducible refine HN.out.mono ?_); rintro e w1 ⟨rfl, rfl⟩)
  all_goals
   go_ret
   exact RetDk.same HD.out
 case neg =>
 have hB := (Below.refl w.heap.size w).alloc (Nat.le_refl _) (Obj.cells #[.slice none 0 0, .int .i64 0] 88)
 have HB := Lib.hid hB
 have HA := Lib.hid (h.below hB)
 have HC := Lib.hid (change_any d b S.arm S.down _ HA.out.cells ha)
 by_cases hlen : 16777216 < l.length
 case pos =>
  have hr : S.append s l = (S, 9) := by unfold DS.append; rw [if_pos hok, hg]; exact (if_neg h8).trans (if_pos hlen)
  rw [hr]
  clear h hok hr hg HC hu hB
  go_enter Tryz.func23, Tryz.ntmps23
  go_wp2_with (go_at_call 51; (with_reducible refine HN.out.mono ?_); rintro e w1 ⟨rfl, rfl⟩)
  all_goals
   go_ret
   exact ⟨rfl, ⟨D, HA.out.mono fun _ g => Or.inl g⟩, Fr.of_below HB.out⟩
 case neg =>
 by_cases hc : chg S.arm S.down = true
 ·have hr : S.append s l = (S.change, 12) := by unfold DS.append; rw [if_pos hok, hg]; exact (if_neg h8).trans ((if_neg hlen).trans (if_pos hc))
  rw [hr]
  rw [hc, if_pos rfl] at HC
  have HE : Hid (chg S.arm S.down = true) := hc
  clear h hok hr hg hc hu hB
  go_enter Tryz.func23, Tryz.ntmps23
  go_wp2_with (first
   | (go_at_call 51; (with_reducible refine HN.out.mono ?_); rintro e w1 ⟨rfl, rfl⟩)
   | (go_at_call 52; (with_reducible refine HC.out.mono ?_); rintro e w2 ⟨rfl, hc2, hf2⟩))
  all_goals
   go_ret
   exact ⟨rfl, ⟨D, ((HA.out.setCells (by rw [← HE.out] at hc2; exact hc2) hf2).mono fun _ g => Or.inl g)⟩, (Fr.of_below HB.out).again (hf2.mono fun k _ hk => by subst hk; exact HD.out.fd)⟩
 ·have hc' : chg S.arm S.down = false := Bool.eq_false_iff.2 hc
  have hr : S.append s l = ({ S.change with f := putF S.f ⟨s, l, 0⟩ }, 0) := by
   unfold DS.append; rw [if_pos hok, hg]; exact (if_neg h8).trans ((if_neg hlen).trans (if_neg hc))
  rw [hr]
  rw [hc', if_neg (by decide)] at HC
  have HE : Hid (chg S.arm S.down = false) := hc'
  have HI := Lib.hid (hin.fr (S := fun _ => False) (Fr.of_below hB) (fun _ g => g.elim))
  have HF := Lib.hid (file_new w s)
  have HT := Lib.hid (HD.out.tight.below hB)
  have hfd : w.heap.size ≠ d := fun e => by have := Fr.lt h.cells; omega
  have hfree : Hid (∀ u, D.atKey (nk u) .nil = .lit (.int .i64 w.heap.size) → u = s) := fun u hu2 => by
   cases hgu : getF S.f u with
   | none => rw [h.files.none u hgu] at hu2; cases hu2
   | some f' =>
     obtain ⟨fb', _, e2, e3⟩ := h.files.some u f' hgu
     rw [e2] at hu2
     have hx : fb' = w.heap.size := by simp at hu2; omega
     obtain ⟨_, _, e4, _⟩ := e3
     have := Fr.lt e4
     omega
  clear h hok hr hg hc hc' hu hin hB
  go_enter Tryz.func23, Tryz.ntmps23
  go_wp2_with (first
   | (go_at_call 51; (with_reducible refine HN.out.mono ?_); rintro e w1 ⟨rfl, rfl⟩)
   | (go_at_call 52; (with_reducible refine HC.out.mono ?_); rintro e w2 ⟨rfl, hc2, hf2⟩; have hF2 := HF.out.fr hf2 (fun k hk => by subst hk; exact NoByte.disk HA.out.cells) hfd; have HC3 := Lib.hid (add_any (cap2 := cap2) (by simpa using hl) hF2 (HI.out.fr hf2 (fun k hk => by subst hk; exact NoByte.disk HA.out.cells))); have HD2 := Lib.hid (HT.out.setCells (by rw [← HE.out] at hc2; exact hc2) hf2); have HF2 := Lib.hid hF2; clear hF2 hc2)
   | (go_at_call 53; (with_reducible refine HC3.out.mono ?_); rintro e w3 ⟨rfl, hF3, hf3⟩; have HF3 := Lib.hid hF3; clear hF3; have HD3 := Lib.hid (HD2.out.fr hf3 HF2.out.noByte (fun k g e => by have e' : k = w.heap.size := e; have := g.2; omega)); have hown3 := HD3.out.own; obtain ⟨x0, x1, x2, y0, y1, y2⟩ := three_cell HD3.out.cells)
   | (at_mapUpdate; refine wpList_mapUpdate_own _ rfl _ _ _ 71 rfl 9 83 nlaw Tryz.underlying71 fileR b _ D rfl hown3 (by unfold maxLen; simp; omega) _ _ (nk s) rfl rfl (nk_key hs) (.lit (.int .i64 w.heap.size)) [] rfl ?_; intro w4 hown4 hgrow4))
  all_goals
   go_ret
   have hput := DkIn.putFile (f := ⟨s, l, 0⟩) (fb := w.heap.size) (HD3.out.mono (G := grow F w) fun _ g => Or.inl g.1) HU.out (Or.inr (Nat.le_refl _)) HF3.out hfree.out (n := _) hown4 (fr_map hgrow4)
   exact ⟨rfl, ⟨_, hput⟩, (((Fr.of_below HB.out).again (hf2.mono fun k _ hk => by subst hk; exact HD.out.fd)).trans (hf3.mono fun k _ hk => by subst hk; exact Or.inr (Nat.le_refl _))).again ((fr_map hgrow4).mono fun k _ hk => by subst hk; exact HD.out.fb)⟩
variable {F : Nat → Prop} {d : Nat} {S : DS} {b : Nat} {D : DataW Unit} {s : ByteArray} {w w' : World}
def DS.rename (S : DS) (s t : ByteArray) : DS × Int :=
 if nameOk t then (if nameOk s then (match getF S.f s with
    | none => (S, 10)
    | some f => if S.change.down then (S.change, 12) else ({ S.change with f := putF (delF S.f s) { f with name := t } }, 0)) else (S, 1)) else (S, 1)
end Go.Proofs.YtlefejokpdjpgaaGreat
/- The disk: Names: the names, sorted. Conditions: at most 8 files. -/
namespace Go.Proofs.YtlefejokpdjpgaaGreat
open Go.RowKit Go.Maps Go.Sort Go.Shelf
variable {F : Nat → Prop} {d : Nat} {S : DS} {b : Nat} {D : DataW Unit} {s : ByteArray} {w w' : World}
theorem Names_any (h : DkIn w F d S b D) (h8 : S.f.length ≤ 8) : Calls Tryz.prog 28 #[.pointer (some ⟨d, 0, none⟩)] w fun e w' => ∃ (v : Value) (ss : List (List UInt8)), e = .returned v ∧ ss.Perm (strKeys D) ∧
 w'.ownsRow w.heap.size 9 1 v ss.length ((ss.mergeSort (fun x y => decide (x ≤ y))).map encStr) ∧ (v = .slice none 0 0 ↔ ss = []) ∧ Below w.heap.size w w' := by
 obtain ⟨p0, p1, p2, f0, f1, f2⟩ := three_cell h.cells
 have hown := h.own
 have hsz := h.files.size
 have hmax : Maps.size D ≤ maxLen := by rw [hsz]; unfold maxLen; omega
 have hbytes : Maps.size D * 16 ≤ 140737488355328 := by rw [hsz]; omega
 clear h
 refine (callsIn_wide (n := 6)).1 ?_
 have hfK : Fence.wide.fn 60 := trivial
 have hfS : Fence.wide.fn 59 := trivial
 refine callsIn_of_wp Tryz.func28 rfl trivial ?_ rfl
 simp only [Tryz.ntmps28, List.size_toArray, List.length_cons, List.length_nil, Nat.reduceAdd, Nat.reduceSub, Array.replicate_succ, Array.replicate_zero, List.push_toArray, List.append_toArray, List.nil_append, List.cons_append]
 gi_wp2_with (first
  | (gi_at_call 60; refine (Tryz.maps_Keys_60 _ _).mono ?_; rintro e w' ⟨rfl, rfl⟩)
  | (gi_at_call 59; refine (Tryz.slices_Sorted_keys_59_60 b S.f.length D fileR w hown hmax hbytes).mono ?_; rintro e w' ⟨v, ss, rfl, hS, hrow, hnil, hb⟩))
 go_ret
 exact ⟨v, ss, rfl, hS, ownsRow_base_a hrow (by simp), hnil, ((Below.refl _ w).alloc (Nat.le_refl _) _).trans (hb.mono (by simp))⟩
theorem New_any (w : World) : Calls Tryz.prog 7 #[] w fun e w' => e = .returned (.pointer (some ⟨w.heap.size + 1, 0, none⟩)) ∧
 DkIn w' (fun k => w.heap.size ≤ k) (w.heap.size + 1) ⟨[], 0, false⟩ w.heap.size (.map []) ∧ Below w.heap.size w w' := by
 have hmm := @run_makeMap Tryz.prog
 have HM := Lib.hid (World.ownsMap_made w Tryz.prog 9 fileR)
 go_enter Tryz.func7, Tryz.ntmps7
 go_wp2
 all_goals
  go_ret
  refine ⟨by simp, ⟨Nat.le_succ _, ?_, Nat.le_refl _, HM.out.alloc _, ?_⟩, ((Below.refl _ w).alloc (Nat.le_refl _) _).alloc (by simp) _⟩
  ·have e1 := (MapKept.heap_alloc (w.alloc (.map #[] 0)) (.cells #[.map (some w.heap.size), .int .i64 0, .bool false] 73)).1
   rw [show (w.alloc (.map #[] 0)).heap.size = w.heap.size + 1 by simp] at e1
   exact e1
  ·refine ⟨fun s _ => rfl, fun s f hg => ?_, fun s t fb ht _ => ?_, fun s => rfl, rfl⟩
   ·simp [getF] at hg
   ·cases ht
end Go.Proofs.YtlefejokpdjpgaaGreat
