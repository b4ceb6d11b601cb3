/- The disk: Append. Conditions: as in the text. -/
import Derived.Test.YtbkelbdeodbhcaaDiskK
set_option linter.unusedSimpArgs false
set_option linter.unusedVariables false
set_option linter.unnecessarySimpa false
namespace Go.Proofs.Ytbkelbdeodbhcaa
open Go.RowKit

variable {F : Nat → Prop} {d : Nat} {S : DS} {b : Nat} {D : DataW Unit} {s : ByteArray} {w w' : World}

theorem putF_setF (l : List DF) (f : DF) : putF (setF l f) f = putF l f := by
  unfold putF
  congr 1
  unfold delF setF
  induction l with
  | nil => rfl
  | cons g r ih =>
    rw [List.map_cons]
    by_cases hg : g.name = f.name
    · rw [if_pos hg, List.filter_cons_of_neg (by simp), List.filter_cons_of_neg (by simp [hg])]
      exact ih
    · rw [if_neg hg, List.filter_cons_of_pos (by simp [hg]), List.filter_cons_of_pos (by simp [hg]), ih]
theorem setF_uniq {l : List DF} (h : Uniq l) (f : DF) : Uniq (setF l f) := by
  unfold Uniq setF at *
  rw [List.pairwise_map]
  refine h.imp ?_
  intro x y hxy
  by_cases h1 : x.name = f.name <;> by_cases h2 : y.name = f.name <;> simp [h1, h2]
  · exact hxy (h1.trans h2.symm)
  · exact fun e => h2 e.symm
  · exact hxy

def DS.append (S : DS) (s : ByteArray) (l : Bytes) : DS × Int :=
  if nameOk s then (match getF S.f s with
    | none => if 8 ≤ S.f.length then (S, 9) else if 16777216 < l.length then (S, 9) else if S.change.down then (S.change, 12) else ({ S.change with f := putF S.f ⟨s, l, 0⟩ }, 0)
    | some f => if 16777216 < f.b.length + l.length then (S, 9) else if S.change.down then (S.change, 12) else ({ S.change with f := putF S.f { f with b := f.b ++ l } }, 0)) else (S, 1)
set_option maxHeartbeats 400000 in
theorem Append_nil (s : ByteArray) (v : Value) (w : World) : Calls Try.prog 14 #[.pointer none, .string s, v] w fun e w' => e = .returned (.int .i64 17) ∧ w = w' := by
  have HN := Lib.hid (find_nil s w)
  go_enter Try.func14, Try.ntmps14
  go_wp2_with (go_at_call 33; (with_reducible refine HN.out.mono ?_); rintro e w1 ⟨rfl, rfl⟩)
  all_goals
    go_ret
    exact ⟨rfl, rfl⟩
set_option maxHeartbeats 400000 in
theorem Append_form {v : Value} (hs : s.size ≤ maxLen) (h : DkIn w F d S b D) (hok : nameOk s = false) :
    Calls Try.prog 14 #[.pointer (some ⟨d, 0, none⟩), .string s, v] w (RetDk F d b S 1 w) := by
  have HN := Lib.hid (find_form (d := d) (w := w) hs rfl hok)
  have HD := Lib.hid h
  clear h hok
  go_enter Try.func14, Try.ntmps14
  go_wp2_with (go_at_call 33; (with_reducible refine HN.out.mono ?_); rintro e w1 ⟨rfl, rfl⟩)
  all_goals
    go_ret
    exact RetDk.same HD.out

set_option maxHeartbeats 800000 in
theorem Append_some {f : DF} {a2 : Option Addr} {l : Bytes} {cap2 : Nat} (hs : s.size ≤ maxLen) (h : DkIn w F d S b D) (hu : Uniq S.f) (ha : S.arm ≤ 1048576) (h8 : S.f.length ≤ 8) (hok : nameOk s = true) (hg : getF S.f s = some f)
    (hlf : f.b.length ≤ 16777216) (hin : BytesIn w a2 l) :
    Calls Try.prog 14 #[.pointer (some ⟨d, 0, none⟩), .string s, .slice a2 l.length cap2] w (RetDk F d b (S.append s l).1 (S.append s l).2 w) := by
  obtain ⟨fb, h1, h2, h3⟩ := h.files.some s f hg
  have HN := Lib.hid (find_some hs h hok h2)
  have HC := Lib.hid (change_any d b S.arm S.down w h.cells ha)
  have HD := Lib.hid h
  have H1 := Lib.hid h1
  have H2 := Lib.hid h2
  have H3 := Lib.hid h3
  have HG := Lib.hid hg
  have HU := Lib.hid hu
  have hfd := file_noDisk h3 h.cells
  obtain ⟨a, cap, b1, b2, b3⟩ := h3
  obtain ⟨p0, p1, f0, f1⟩ := two_cell b1
  clear b1 b2 b3
  by_cases hlen : 16777216 < f.b.length + l.length
  case pos =>
    have hr : S.append s l = (S, 9) := by unfold DS.append; rw [if_pos hok, hg]; exact if_pos hlen
    rw [hr]
    clear h hok hr hg h1 h2 HC hu
    go_enter Try.func14, Try.ntmps14
    go_wp2_with (go_at_call 33; (with_reducible refine HN.out.mono ?_); rintro e w1 ⟨rfl, rfl⟩)
    all_goals
      go_ret
      exact RetDk.same HD.out
  case neg =>
  by_cases hc : chg S.arm S.down = true
  · have hr : S.append s l = (S.change, 12) := by unfold DS.append; rw [if_pos hok, hg]; exact (if_neg hlen).trans (if_pos hc)
    rw [hr]
    rw [hc, if_pos rfl] at HC
    have HE : Hid (chg S.arm S.down = true) := hc
    clear h hok hr hg h1 h2 hc hu
    go_enter Try.func14, Try.ntmps14
    go_wp2_with (first
      | (go_at_call 33; (with_reducible refine HN.out.mono ?_); rintro e w1 ⟨rfl, rfl⟩)
      | (go_at_call 35; (with_reducible refine HC.out.mono ?_); rintro e w2 ⟨rfl, hc2, hf2⟩))
    all_goals
      go_ret
      exact ⟨rfl, ⟨D, ((HD.out.setCells (by rw [← HE.out] at hc2; exact hc2) hf2).mono fun _ g => Or.inl g)⟩, hf2.mono fun k _ hk => by subst hk; exact HD.out.fd⟩
  · have hc' : chg S.arm S.down = false := Bool.eq_false_iff.2 hc
    have hr : S.append s l = ({ S.change with f := putF S.f { f with b := f.b ++ l } }, 0) := by
      unfold DS.append; rw [if_pos hok, hg]; exact (if_neg hlen).trans (if_neg hc)
    rw [hr]
    rw [hc', if_neg (by decide)] at HC
    have HE : Hid (chg S.arm S.down = false) := hc'
    have hname : f.name = s := getF_name hg
    have HM := Lib.hid hname
    have HI := Lib.hid hin
    clear h hok hr hg h1 h2 hc hc' hu hin hname
    go_enter Try.func14, Try.ntmps14
    go_wp2_with (first
      | (go_at_call 33; (with_reducible refine HN.out.mono ?_); rintro e w1 ⟨rfl, rfl⟩)
      | (go_at_call 35; (with_reducible refine HC.out.mono ?_); rintro e w2 ⟨rfl, hc2, hf2⟩; have hF2 := H3.out.fr hf2 (fun k hk => by subst hk; exact NoByte.disk HD.out.cells) hfd; have HF2 := Lib.hid hF2; have HC3 := Lib.hid (add_any (cap2 := cap2) (by omega) hF2 (HI.out.fr hf2 (fun k hk => by subst hk; exact NoByte.disk HD.out.cells))); have HD2 := Lib.hid (HD.out.setCells (by rw [← HE.out] at hc2; exact hc2) hf2); clear hF2 hc2)
      | (go_at_call 36; (with_reducible refine HC3.out.mono ?_); rintro e w3 ⟨rfl, hF3, hf3⟩; have HD3 := Lib.hid (DkIn.setFile (g := f) (f := { f with b := f.b ++ l }) HD2.out HG.out H2.out (show f.name = s from HM.out) hF3 HF2.out hf3); have hown3 := HD3.out.own; obtain ⟨q0, q1, q2, g0, g1, g2⟩ := three_cell HD3.out.cells; have HF3 := Lib.hid hF3; clear hF3)
      | (at_mapUpdate; refine wpList_mapUpdate_own _ rfl _ _ _ 60 rfl 9 69 nlaw Try.underlying60 fileR b _ D rfl hown3 (by unfold maxLen; simp [setF]; omega) _ _ (nk s) rfl rfl (nk_key hs) (.lit (.int .i64 fb)) [] rfl ?_; intro w4 hown4 hgrow4))
    all_goals
      go_ret
      have hput := DkIn.putFile (f := { f with b := f.b ++ l }) (fb := fb) HD3.out (setF_uniq HU.out _) H1.out HF3.out (fun u hu2 => (HD.out.files.apart u s fb hu2 H2.out).trans (show s = f.name from HM.out.symm)) (n := _) (by rw [show ({ f with b := f.b ++ l } : DF).name = s from HM.out]; exact hown4) (fr_map hgrow4)
      rw [putF_setF] at hput
      exact ⟨rfl, ⟨_, hput.mono fun _ g => Or.inl g⟩, ((hf2.mono (T := F) fun k _ hk => by subst hk; exact HD.out.fd).again (hf3.mono fun k _ hk => by subst hk; exact H1.out)).again ((fr_map hgrow4).mono fun k _ hk => by subst hk; exact HD.out.fb)⟩
end Go.Proofs.Ytbkelbdeodbhcaa
