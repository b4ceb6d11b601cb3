/- The disk: Rename. Conditions: as in the text. -/
import Derived.Test.YtbkelbdeodbhcaaDiskM
set_option linter.unusedSimpArgs false
set_option linter.unusedVariables false
set_option linter.unnecessarySimpa false
namespace Go.Proofs.Ytbkelbdeodbhcaa
open Go.RowKit

variable {F : Nat → Prop} {d : Nat} {S : DS} {b : Nat} {D : DataW Unit} {s : ByteArray} {w w' : World}

def DS.rename (S : DS) (s t : ByteArray) : DS × Int :=
  if nameOk t then (if nameOk s then (match getF S.f s with
    | none => (S, 10)
    | some f => if S.change.down then (S.change, 12) else ({ S.change with f := putF (delF S.f s) { f with name := t } }, 0)) else (S, 1)) else (S, 1)
theorem delF_uniq {l : List DF} (h : Uniq l) (s : ByteArray) : Uniq (delF l s) := h.filter _
set_option maxHeartbeats 400000 in
theorem Rename_nil (s t : ByteArray) (w : World) : Calls Try.prog 22 #[.pointer none, .string s, .string t] w fun e w' => e = .returned (.int .i64 17) ∧ w = w' := by
  have HN := Lib.hid (find_nil s w)
  go_enter Try.func22, Try.ntmps22
  go_wp2_with (go_at_call 33; (with_reducible refine HN.out.mono ?_); rintro e w1 ⟨rfl, rfl⟩)
  all_goals
    go_ret
    exact ⟨rfl, rfl⟩
set_option maxHeartbeats 800000 in
theorem Rename_any {t : ByteArray} (hs : s.size ≤ maxLen) (ht : t.size ≤ maxLen) (h : DkIn w F d S b D) (hu : Uniq S.f) (ha : S.arm ≤ 1048576) (h8 : S.f.length ≤ 8) :
    Calls Try.prog 22 #[.pointer (some ⟨d, 0, none⟩), .string s, .string t] w (RetDk F d b (S.rename s t).1 (S.rename s t).2 w) := by
  have HT := Lib.hid (right_any t w ht)
  by_cases hot : nameOk t = true
  case neg =>
    have hr : S.rename s t = (S, 1) := by unfold DS.rename; rw [if_neg hot]
    rw [hr]
    rw [Bool.eq_false_iff.2 hot] at HT
    have HD := Lib.hid h
    clear h hr hu hot
    go_enter Try.func22, Try.ntmps22
    go_wp2_with (go_at_call 39; (with_reducible refine HT.out.mono ?_); rintro e w1 ⟨rfl, rfl⟩)
    all_goals
      go_ret
      exact RetDk.same HD.out
  case pos =>
  rw [hot] at HT
  by_cases hok : nameOk s = true
  case neg =>
    have HN := Lib.hid (find_form (d := d) (w := w) hs rfl (Bool.eq_false_iff.2 hok))
    have hr : S.rename s t = (S, 1) := by unfold DS.rename; rw [if_pos hot, if_neg hok]
    rw [hr]
    have HD := Lib.hid h
    clear h hok hr hu hot
    go_enter Try.func22, Try.ntmps22
    go_wp2_with (first
      | (go_at_call 39; (with_reducible refine HT.out.mono ?_); rintro e w1 ⟨rfl, rfl⟩)
      | (go_at_call 33; (with_reducible refine HN.out.mono ?_); rintro e w1 ⟨rfl, rfl⟩))
    all_goals
      go_ret
      exact RetDk.same HD.out
  case pos =>
  cases hg : getF S.f s with
  | none =>
    have HN := Lib.hid (find_none hs h hok hg)
    have hr : S.rename s t = (S, 10) := by unfold DS.rename; rw [if_pos hot, if_pos hok, hg]
    rw [hr]
    have HD := Lib.hid h
    clear h hok hr hg hu hot
    go_enter Try.func22, Try.ntmps22
    go_wp2_with (first
      | (go_at_call 39; (with_reducible refine HT.out.mono ?_); rintro e w1 ⟨rfl, rfl⟩)
      | (go_at_call 33; (with_reducible refine HN.out.mono ?_); rintro e w1 ⟨rfl, rfl⟩))
    all_goals
      go_ret
      exact RetDk.same HD.out
  | some f =>
    obtain ⟨fb, h1, h2, h3⟩ := h.files.some s f hg
    have HN := Lib.hid (find_some hs h hok h2)
    have HC := Lib.hid (change_any d b S.arm S.down w h.cells ha)
    have HD := Lib.hid h
    have HG := Lib.hid hg
    have HU := Lib.hid hu
    have H1 := Lib.hid h1
    have H2 := Lib.hid h2
    have H3 := Lib.hid h3
    have hfd := file_noDisk h3 h.cells
    have hfm := file_noMap h3 h.own
    by_cases hc : chg S.arm S.down = true
    · have hr : S.rename s t = (S.change, 12) := by unfold DS.rename; rw [if_pos hot, if_pos hok, hg]; exact if_pos hc
      rw [hr]
      rw [hc, if_pos rfl] at HC
      have HE : Hid (chg S.arm S.down = true) := hc
      clear h hok hr hg h1 h2 h3 hc hu hot
      go_enter Try.func22, Try.ntmps22
      go_wp2_with (first
        | (go_at_call 39; (with_reducible refine HT.out.mono ?_); rintro e w1 ⟨rfl, rfl⟩)
        | (go_at_call 33; (with_reducible refine HN.out.mono ?_); rintro e w1 ⟨rfl, rfl⟩)
        | (go_at_call 35; (with_reducible refine HC.out.mono ?_); rintro e w2 ⟨rfl, hc2, hf2⟩))
      all_goals
        go_ret
        exact ⟨rfl, ⟨D, ((HD.out.setCells (by rw [← HE.out] at hc2; exact hc2) hf2).mono fun _ g => Or.inl g)⟩, hf2.mono fun k _ hk => by subst hk; exact HD.out.fd⟩
    · have hc' : chg S.arm S.down = false := Bool.eq_false_iff.2 hc
      have hr : S.rename s t = ({ S.change with f := putF (delF S.f s) { f with name := t } }, 0) := by unfold DS.rename; rw [if_pos hot, if_pos hok, hg]; exact if_neg hc
      rw [hr]
      rw [hc', if_neg (by decide)] at HC
      have HE : Hid (chg S.arm S.down = false) := hc'
      clear h hok hr hg h1 h2 h3 hc hc' hu hot
      go_enter Try.func22, Try.ntmps22
      go_wp2_with (first
        | (go_at_call 39; (with_reducible refine HT.out.mono ?_); rintro e w1 ⟨rfl, rfl⟩)
        | (go_at_call 33; (with_reducible refine HN.out.mono ?_); rintro e w1 ⟨rfl, rfl⟩)
        | (go_at_call 35; (with_reducible refine HC.out.mono ?_); rintro e w2 ⟨rfl, hc2, hf2⟩; have HD2 := Lib.hid (HD.out.setCells (by rw [← HE.out] at hc2; exact hc2) hf2); have HF2 := Lib.hid (H3.out.fr hf2 (fun k hk => by subst hk; exact NoByte.disk HD.out.cells) hfd); have hown2 := HD2.out.own; obtain ⟨q0, q1, q2, g0, g1, g2⟩ := three_cell hc2)
        | (at_delete; refine wpList_delete_own _ rfl _ _ 60 9 rfl 69 nlaw Try.underlying60 fileR b _ D rfl hown2 _ (nk s) rfl (nk_key hs) ?_; intro w3 hown3 hturn3; have HD3 := Lib.hid (HD2.out.delFile HU.out HG.out hown3 (fr_map hturn3.grown)); obtain ⟨x0, x1, x2, y0, y1, y2⟩ := three_cell HD3.out.cells)
        | (at_mapUpdate; refine wpList_mapUpdate_own _ rfl _ _ _ 60 rfl 9 69 nlaw Try.underlying60 fileR b _ _ rfl hown3 (by unfold maxLen; simp; omega) _ _ (nk t) rfl rfl (nk_key ht) (.lit (.int .i64 fb)) [] rfl ?_; intro w4 hown4 hgrow4))
      all_goals
        go_ret
        have hF3 : FileAt w3 fb f := HF2.out.fr (fr_map hturn3.grown) (fun k hk => by subst hk; obtain ⟨es, cl, hb, _⟩ := HD2.out.own; exact NoByte.map hb) hfm
        have hput := DkIn.putFile (f := { f with name := t }) (fb := fb) HD3.out (delF_uniq HU.out s) H1.out hF3 (fun u hu2 => by
          by_cases e : u = s
          · subst e; rw [Maps.atKey_del_same] at hu2; cases hu2
          · rw [Maps.atKey_del_other (fun e2 => e (nk_inj e2))] at hu2
            exact absurd (HD.out.files.apart u s fb hu2 H2.out) e) (n := _) hown4 (fr_map hgrow4)
        exact ⟨rfl, ⟨_, hput.mono fun _ g => Or.inl g⟩, ((hf2.mono (T := F) fun k _ hk => by subst hk; exact HD.out.fd).again ((fr_map hturn3.grown).mono fun k _ hk => by subst hk; exact HD.out.fb)).again ((fr_map hgrow4).mono fun k _ hk => by subst hk; exact HD.out.fb)⟩
end Go.Proofs.Ytbkelbdeodbhcaa
