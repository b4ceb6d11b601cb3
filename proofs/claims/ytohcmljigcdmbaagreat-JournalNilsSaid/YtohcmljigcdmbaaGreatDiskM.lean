/- The disk: Append. Conditions: as in the text. -/
import Derived.Test.YtohcmljigcdmbaaGreatDiskK
set_option linter.unusedSimpArgs false
set_option linter.unusedVariables false
set_option linter.unnecessarySimpa false
set_option maxHeartbeats 16000000
set_option maxRecDepth 100000
namespace Go.Proofs.YtohcmljigcdmbaaGreat
open Go.RowKit
variable {F : Nat → Prop} {d : Nat} {S : DS} {b : Nat} {D : DataW Unit} {s : ByteArray} {w w' : World}
theorem putF_setF (l : List DF) (f : DF) : putF (setF l f) f = putF l f := by
 unfold putF
 congr 1
 unfold delF setF
 induction l with
 | nil => rfl
 | cons g r ih =>
   rw [List.map_cons]
   by_cases hg : g.name = f.name
   ·rw [if_pos hg, List.filter_cons_of_neg (by simp), List.filter_cons_of_neg (by simp [hg])]
    exact ih
   ·rw [if_neg hg, List.filter_cons_of_pos (by simp [hg]), List.filter_cons_of_pos (by simp [hg]), ih]
theorem setF_uniq {l : List DF} (h : Uniq l) (f : DF) : Uniq (setF l f) := by
 unfold Uniq setF at *
 rw [List.pairwise_map]
 refine h.imp ?_
 intro x y hxy
 by_cases h1 : x.name = f.name <;> by_cases h2 : y.name = f.name <;> simp [h1, h2]
 ·exact hxy (h1.trans h2.symm)
 ·exact fun e => h2 e.symm
 ·exact hxy
def DS.append (S : DS) (s : ByteArray) (l : Bytes) : DS × Int :=
 if nameOk s then (match getF S.f s with
    | none => if 8 ≤ S.f.length then (S, 9) else if 16777216 < l.length then (S, 9) else if S.change.down then (S.change, 12) else ({ S.change with f := putF S.f ⟨s, l, 0⟩ }, 0)
    | some f => if 16777216 < f.b.length + l.length then (S, 9) else if S.change.down then (S.change, 12) else ({ S.change with f := putF S.f { f with b := f.b ++ l } }, 0)) else (S, 1)
theorem Append_form {v : Value} (hs : s.size ≤ maxLen) (h : DkIn w F d S b D) (hok : nameOk s = false) :
 Calls Tryz.prog 37 #[.pointer (some ⟨d, 0, none⟩), .string s, v] w (RetDk F d b S 1 w) := by
 have HN := Lib.hid (find_form (d := d) (w := w) hs rfl hok)
 have HD := Lib.hid h
 clear h hok
 go_enter Tryz.func37, Tryz.ntmps37
 go_wp2_with (go_at_call 80; (with_reducible refine HN.out.mono ?_); rintro e w1 ⟨rfl, rfl⟩)
 all_goals
  go_ret
  exact RetDk.same HD.out
theorem Append_some {f : DF} {a2 : Option Addr} {l : Bytes} {cap2 : Nat} (hs : s.size ≤ maxLen) (h : DkIn w F d S b D) (hu : Uniq S.f) (ha : S.arm ≤ 1048576) (h8 : S.f.length ≤ 8) (hok : nameOk s = true) (hg : getF S.f s = some f)
 (hlf : f.b.length ≤ 16777216) (hin : BytesIn w a2 l) :
 Calls Tryz.prog 37 #[.pointer (some ⟨d, 0, none⟩), .string s, .slice a2 l.length cap2] w (RetDk F d b (S.append s l).1 (S.append s l).2 w) := by
 obtain ⟨fb, h1, h2, h3⟩ := h.files.some s f hg
 have HN := Lib.hid (find_some hs h hok h2)
 have HC := Lib.hid (change_any d b S.arm S.down w h.cells ha)
 have HD := Lib.hid h
 have H1 := Lib.hid h1
 have H2 := Lib.hid h2
 have H3 := Lib.hid h3
 have HG := Lib.hid hg
 have HU := Lib.hid hu
 have hfd := file_noDisk h3 h.cells
 obtain ⟨a, cap, b1, b2, b3⟩ := h3
 obtain ⟨p0, p1, f0, f1⟩ := two_cell b1
 clear b1 b2 b3
 by_cases hlen : 16777216 < f.b.length + l.length
 case pos =>
  have hr : S.append s l = (S, 9) := by unfold DS.append; rw [if_pos hok, hg]; exact if_pos hlen
  rw [hr]
  clear h hok hr hg h1 h2 HC hu
  go_enter Tryz.func37, Tryz.ntmps37
  go_wp2_with (go_at_call 80; (with_reducible refine HN.out.mono ?_); rintro e w1 ⟨rfl, rfl⟩)
  all_goals
   go_ret
   exact RetDk.same HD.out
 case neg =>
 by_cases hc : chg S.arm S.down = true
 ·have hr : S.append s l = (S.change, 12) := by unfold DS.append; rw [if_pos hok, hg]; exact (if_neg hlen).trans (if_pos hc)
  rw [hr]
  rw [hc, if_pos rfl] at HC
  have HE : Hid (chg S.arm S.down = true) := hc
  clear h hok hr hg h1 h2 hc hu
  go_enter Tryz.func37, Tryz.ntmps37
  go_wp2_with (first
   | (go_at_call 80; (with_reducible refine HN.out.mono ?_); rintro e w1 ⟨rfl, rfl⟩)
   | (go_at_call 81; (with_reducible refine HC.out.mono ?_); rintro e w2 ⟨rfl, hc2, hf2⟩))
  all_goals
   go_ret
   exact ⟨rfl, ⟨D, ((HD.out.setCells (by rw [← HE.out] at hc2; exact hc2) hf2).mono fun _ g => Or.inl g)⟩, hf2.mono fun k _ hk => by subst hk; exact HD.out.fd⟩
 ·have hc' : chg S.arm S.down = false := Bool.eq_false_iff.2 hc
  have hr : S.append s l = ({ S.change with f := putF S.f { f with b := f.b ++ l } }, 0) := by
   unfold DS.append; rw [if_pos hok, hg]; exact (if_neg hlen).trans (if_neg hc)
  rw [hr]
  rw [hc', if_neg (by decide)] at HC
  have HE : Hid (chg S.arm S.down = false) := hc'
  have hname : f.name = s := getF_name hg
  have HM := Lib.hid hname
  have HI := Lib.hid hin
  clear h hok hr hg h1 h2 hc hc' hu hin hname
  go_enter Tryz.func37, Tryz.ntmps37
  go_wp2_with (first
   | (go_at_call 80; (with_reducible refine HN.out.mono ?_); rintro e w1 ⟨rfl, rfl⟩)
   | (go_at_call 81; (with_reducible refine HC.out.mono ?_); rintro e w2 ⟨rfl, hc2, hf2⟩; have hF2 := H3.out.fr hf2 (fun k hk => by subst hk; exact NoByte.disk HD.out.cells) hfd; have HF2 := Lib.hid hF2; have HC3 := Lib.hid (add_any (cap2 := cap2) (by omega) hF2 (HI.out.fr hf2 (fun k hk => by subst hk; exact NoByte.disk HD.out.cells))); have HD2 := Lib.hid (HD.out.setCells (by rw [← HE.out] at hc2; exact hc2) hf2); clear hF2 hc2)
   | (go_at_call 82; (with_reducible refine HC3.out.mono ?_); rintro e w3 ⟨rfl, hF3, hf3⟩; have HD3 := Lib.hid (DkIn.setFile (g := f) (f := { f with b := f.b ++ l }) HD2.out HG.out H2.out (show f.name = s from HM.out) hF3 HF2.out hf3); have hown3 := HD3.out.own; obtain ⟨q0, q1, q2, g0, g1, g2⟩ := three_cell HD3.out.cells; have HF3 := Lib.hid hF3; clear hF3)
   | (at_mapUpdate; refine wpList_mapUpdate_own _ rfl _ _ _ 71 rfl 9 132 nlaw Tryz.underlying71 fileR b _ D rfl hown3 (by unfold maxLen; simp [setF]; omega) _ _ (nk s) rfl rfl (nk_key hs) (.lit (.int .i64 fb)) [] rfl ?_; intro w4 hown4 hgrow4))
  all_goals
   go_ret
   have hput := DkIn.putFile (f := { f with b := f.b ++ l }) (fb := fb) HD3.out (setF_uniq HU.out _) H1.out HF3.out (fun u hu2 => (HD.out.files.apart u s fb hu2 H2.out).trans (show s = f.name from HM.out.symm)) (n := _) (by rw [show ({ f with b := f.b ++ l } : DF).name = s from HM.out]; exact hown4) (fr_map hgrow4)
   rw [putF_setF] at hput
   exact ⟨rfl, ⟨_, hput.mono fun _ g => Or.inl g⟩, ((hf2.mono (T := F) fun k _ hk => by subst hk; exact HD.out.fd).again (hf3.mono fun k _ hk => by subst hk; exact H1.out)).again ((fr_map hgrow4).mono fun k _ hk => by subst hk; exact HD.out.fb)⟩
variable {F : Nat → Prop} {d : Nat} {S : DS} {b : Nat} {D : DataW Unit} {s : ByteArray} {w w' : World}
theorem DkIn.below (h : DkIn w F d S b D) (hb : Below w.heap.size w w') : DkIn w' F d S b D :=
 h.fr (T := fun _ => False) (Fr.of_below hb) (fun _ g => g.elim) (fun _ _ g => g)
theorem DkIn.tight (h : DkIn w F d S b D) : DkIn w (fun k => F k ∧ k < w.heap.size) d S b D :=
 ⟨⟨h.fd, Fr.lt h.cells⟩, h.cells, ⟨h.fb, h.own.lt⟩, h.own, h.files.none, fun s f hg => let ⟨fb, h1, h2, h3⟩ := h.files.some s f hg; ⟨fb, ⟨h1, let ⟨_, _, e, _⟩ := h3; Fr.lt e⟩, h2, h3⟩, h.files.apart, h.files.has, h.files.size⟩
theorem FileAt.noByte {fb : Nat} {f : DF} (h : FileAt w fb f) : ∀ k, isR fb k → NoByte w k := fun k hk => by
 subst hk
 obtain ⟨a, cap, h1, _⟩ := h
 exact NoByte.file h1
theorem file_new (w : World) (s : ByteArray) : FileAt (w.alloc (.cells #[.slice none 0 0, .int .i64 0] 138)) w.heap.size ⟨s, [], 0⟩ :=
 ⟨none, 0, (MapKept.heap_alloc w _).1, Or.inl rfl, Nat.le_refl _⟩
theorem Append_none {a2 : Option Addr} {l : Bytes} {cap2 : Nat} (hs : s.size ≤ maxLen) (h : DkIn w F d S b D) (hu : Uniq S.f) (ha : S.arm ≤ 1048576) (hok : nameOk s = true) (hg : getF S.f s = none) (hl : l.length ≤ 1073741824)
 (hin : BytesIn w a2 l) :
 Calls Tryz.prog 37 #[.pointer (some ⟨d, 0, none⟩), .string s, .slice a2 l.length cap2] w (RetDk F d b (S.append s l).1 (S.append s l).2 w) := by
 have HN := Lib.hid (find_none hs h hok hg)
 have HD := Lib.hid h
 have HG := Lib.hid hg
 have HU := Lib.hid hu
 obtain ⟨q0, q1, q2, g0, g1, g2⟩ := three_cell h.cells
 have hlm := fun ty => h.own.len Tryz.underlying71 ty
 rw [h.files.size] at hlm
 by_cases h8 : 8 ≤ S.f.length
 case pos =>
  have hr : S.append s l = (S, 9) := by unfold DS.append; rw [if_pos hok, hg]; exact if_pos h8
  rw [hr]
  clear h hok hr hg hu
  go_enter Tryz.func37, Tryz.ntmps37
  go_wp2_with (go_at_call 80; (with_reducible refine HN.out.mono ?_); rintro e w1 ⟨rfl, rfl⟩)
  all_goals
   go_ret
   exact RetDk.same HD.out
 case neg =>
 have hB := (Below.refl w.heap.size w).alloc (Nat.le_refl _) (Obj.cells #[.slice none 0 0, .int .i64 0] 138)
 have HB := Lib.hid hB
 have HA := Lib.hid (h.below hB)
 have HC := Lib.hid (change_any d b S.arm S.down _ HA.out.cells ha)
 by_cases hlen : 16777216 < l.length
 case pos =>
  have hr : S.append s l = (S, 9) := by unfold DS.append; rw [if_pos hok, hg]; exact (if_neg h8).trans (if_pos hlen)
  rw [hr]
  clear h hok hr hg HC hu hB
  go_enter Tryz.func37, Tryz.ntmps37
  go_wp2_with (go_at_call 80; (with_reducible refine HN.out.mono ?_); rintro e w1 ⟨rfl, rfl⟩)
  all_goals
   go_ret
   exact ⟨rfl, ⟨D, HA.out.mono fun _ g => Or.inl g⟩, Fr.of_below HB.out⟩
 case neg =>
 by_cases hc : chg S.arm S.down = true
 ·have hr : S.append s l = (S.change, 12) := by unfold DS.append; rw [if_pos hok, hg]; exact (if_neg h8).trans ((if_neg hlen).trans (if_pos hc))
  rw [hr]
  rw [hc, if_pos rfl] at HC
  have HE : Hid (chg S.arm S.down = true) := hc
  clear h hok hr hg hc hu hB
  go_enter Tryz.func37, Tryz.ntmps37
  go_wp2_with (first
   | (go_at_call 80; (with_reducible refine HN.out.mono ?_); rintro e w1 ⟨rfl, rfl⟩)
   | (go_at_call 81; (with_reducible refine HC.out.mono ?_); rintro e w2 ⟨rfl, hc2, hf2⟩))
  all_goals
   go_ret
   exact ⟨rfl, ⟨D, ((HA.out.setCells (by rw [← HE.out] at hc2; exact hc2) hf2).mono fun _ g => Or.inl g)⟩, (Fr.of_below HB.out).again (hf2.mono fun k _ hk => by subst hk; exact HD.out.fd)⟩
 ·have hc' : chg S.arm S.down = false := Bool.eq_false_iff.2 hc
  have hr : S.append s l = ({ S.change with f := putF S.f ⟨s, l, 0⟩ }, 0) := by
   unfold DS.append; rw [if_pos hok, hg]; exact (if_neg h8).trans ((if_neg hlen).trans (if_neg hc))
  rw [hr]
  rw [hc', if_neg (by decide)] at HC
  have HE : Hid (chg S.arm S.down = false) := hc'
  have HI := Lib.hid (hin.fr (S := fun _ => False) (Fr.of_below hB) (fun _ g => g.elim))
  have HF := Lib.hid (file_new w s)
  have HT := Lib.hid (HD.out.tight.below hB)
  have hfd : w.heap.size ≠ d := fun e => by have := Fr.lt h.cells; omega
  have hfree : Hid (∀ u, D.atKey (nk u) .nil = .lit (.int .i64 w.heap.size) → u = s) := fun u hu2 => by
   cases hgu : getF S.f u with
   | none => rw [h.files.none u hgu] at hu2; cases hu2
   | some f' =>
     obtain ⟨fb', _, e2, e3⟩ := h.files.some u f' hgu
     rw [e2] at hu2
     have hx : fb' = w.heap.size := by simp at hu2; omega
     obtain ⟨_, _, e4, _⟩ := e3
     have := Fr.lt e4
     omega
  clear h hok hr hg hc hc' hu hin hB
  go_enter Tryz.func37, Tryz.ntmps37
  go_wp2_with (first
   | (go_at_call 80; (with_reducible refine HN.out.mono ?_); rintro e w1 ⟨rfl, rfl⟩)
   | (go_at_call 81; (with_reducible refine HC.out.mono ?_); rintro e w2 ⟨rfl, hc2, hf2⟩; have hF2 := HF.out.fr hf2 (fun k hk => by subst hk; exact NoByte.disk HA.out.cells) hfd; have HC3 := Lib.hid (add_any (cap2 := cap2) (by simpa using hl) hF2 (HI.out.fr hf2 (fun k hk => by subst hk; exact NoByte.disk HA.out.cells))); have HD2 := Lib.hid (HT.out.setCells (by rw [← HE.out] at hc2; exact hc2) hf2); have HF2 := Lib.hid hF2; clear hF2 hc2)
   | (go_at_call 82; (with_reducible refine HC3.out.mono ?_); rintro e w3 ⟨rfl, hF3, hf3⟩; have HF3 := Lib.hid hF3; clear hF3; have HD3 := Lib.hid (HD2.out.fr hf3 HF2.out.noByte (fun k g e => by have e' : k = w.heap.size := e; have := g.2; omega)); have hown3 := HD3.out.own; obtain ⟨x0, x1, x2, y0, y1, y2⟩ := three_cell HD3.out.cells)
   | (at_mapUpdate; refine wpList_mapUpdate_own _ rfl _ _ _ 71 rfl 9 132 nlaw Tryz.underlying71 fileR b _ D rfl hown3 (by unfold maxLen; simp; omega) _ _ (nk s) rfl rfl (nk_key hs) (.lit (.int .i64 w.heap.size)) [] rfl ?_; intro w4 hown4 hgrow4))
  all_goals
   go_ret
   have hput := DkIn.putFile (f := ⟨s, l, 0⟩) (fb := w.heap.size) (HD3.out.mono (G := grow F w) fun _ g => Or.inl g.1) HU.out (Or.inr (Nat.le_refl _)) HF3.out hfree.out (n := _) hown4 (fr_map hgrow4)
   exact ⟨rfl, ⟨_, hput⟩, (((Fr.of_below HB.out).again (hf2.mono fun k _ hk => by subst hk; exact HD.out.fd)).trans (hf3.mono fun k _ hk => by subst hk; exact Or.inr (Nat.le_refl _))).again ((fr_map hgrow4).mono fun k _ hk => by subst hk; exact HD.out.fb)⟩
end Go.Proofs.YtohcmljigcdmbaaGreat
