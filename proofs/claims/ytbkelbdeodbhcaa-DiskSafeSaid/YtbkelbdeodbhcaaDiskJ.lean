/- The disk: Truncate. Conditions: as in the text. -/
import Derived.Test.YtbkelbdeodbhcaaDiskI
set_option linter.unusedSimpArgs false
set_option linter.unusedVariables false
set_option linter.unnecessarySimpa false
namespace Go.Proofs.Ytbkelbdeodbhcaa
open Go.RowKit

variable {F : Nat → Prop} {d : Nat} {S : DS} {b : Nat} {D : DataW Unit} {s : ByteArray} {w w' : World}

set_option maxHeartbeats 800000 in
theorem Truncate_any {n : Int} (hs : s.size ≤ maxLen) (h : DkIn w F d S b D) (ha : S.arm ≤ 1048576) (hl : ∀ f, getF S.f s = some f → f.b.length ≤ 1073741824) :
    Calls Try.prog 15 #[.pointer (some ⟨d, 0, none⟩), .string s, .int .i64 n] w (RetDk F d b (S.trunc s n).1 (S.trunc s n).2 w) := by
  by_cases hok : nameOk s = true
  case neg =>
    have HN := Lib.hid (find_form (d := d) (w := w) hs rfl (Bool.eq_false_iff.2 hok))
    have hr : S.trunc s n = (S, 1) := by unfold DS.trunc; rw [if_neg hok]
    rw [hr]
    have HD := Lib.hid h
    clear h hok hr hl
    go_enter Try.func15, Try.ntmps15
    go_wp2_with (go_at_call 33; (with_reducible refine HN.out.mono ?_); rintro e w1 ⟨rfl, rfl⟩)
    all_goals
      go_ret
      exact RetDk.same HD.out
  case pos =>
  cases hg : getF S.f s with
  | none =>
    have HN := Lib.hid (find_none hs h hok hg)
    have hr : S.trunc s n = (S, 10) := by unfold DS.trunc; rw [if_pos hok, hg]
    rw [hr]
    have HD := Lib.hid h
    clear h hok hr hg hl
    go_enter Try.func15, Try.ntmps15
    go_wp2_with (go_at_call 33; (with_reducible refine HN.out.mono ?_); rintro e w1 ⟨rfl, rfl⟩)
    all_goals
      go_ret
      exact RetDk.same HD.out
  | some f =>
    obtain ⟨fb, h1, h2, h3⟩ := h.files.some s f hg
    have hlf := hl f hg
    have HN := Lib.hid (find_some hs h hok h2)
    have HC := Lib.hid (change_any d b S.arm S.down w h.cells ha)
    have HD := Lib.hid h
    have H1 := Lib.hid h1
    have H2 := Lib.hid h2
    have H3 := Lib.hid h3
    have HG := Lib.hid hg
    have hfd := file_noDisk h3 h.cells
    obtain ⟨a, cap, b1, b2, b3⟩ := h3
    obtain ⟨p0, p1, f0, f1⟩ := two_cell b1
    clear b1 b2 b3
    by_cases hn0 : n < 0
    case pos =>
      have hr : S.trunc s n = (S, 4) := by unfold DS.trunc; rw [if_pos hok, hg]; exact if_pos (Or.inl hn0)
      rw [hr]
      clear h hok hr hg h1 h2 HC hl
      go_enter Try.func15, Try.ntmps15
      go_wp2_with (go_at_call 33; (with_reducible refine HN.out.mono ?_); rintro e w1 ⟨rfl, rfl⟩)
      all_goals
        go_ret
        exact RetDk.same HD.out
    case neg =>
    obtain ⟨m, rfl⟩ : ∃ m : Nat, n = m := ⟨n.toNat, by omega⟩
    by_cases hn1 : f.b.length < m
    case pos =>
      have hr : S.trunc s m = (S, 4) := by unfold DS.trunc; rw [if_pos hok, hg]; exact if_pos (Or.inr (by omega))
      rw [hr]
      clear h hok hr hg h1 h2 HC hl
      go_enter Try.func15, Try.ntmps15
      go_wp2_with (go_at_call 33; (with_reducible refine HN.out.mono ?_); rintro e w1 ⟨rfl, rfl⟩)
      all_goals
        go_ret
        exact RetDk.same HD.out
    case neg =>
    by_cases hc : chg S.arm S.down = true
    · have hr : S.trunc s m = (S.change, 12) := by unfold DS.trunc; rw [if_pos hok, hg]; exact (if_neg (by omega)).trans (if_pos hc)
      rw [hr]
      rw [hc, if_pos rfl] at HC
      have HE : Hid (chg S.arm S.down = true) := hc
      clear h hok hr hg h1 h2 hc hl
      go_enter Try.func15, Try.ntmps15
      go_wp2_with (first
        | (go_at_call 33; (with_reducible refine HN.out.mono ?_); rintro e w1 ⟨rfl, rfl⟩)
        | (go_at_call 35; (with_reducible refine HC.out.mono ?_); rintro e w2 ⟨rfl, hc2, hf2⟩))
      all_goals
        go_ret
        exact ⟨rfl, ⟨D, ((HD.out.setCells (by rw [← HE.out] at hc2; exact hc2) hf2).mono fun _ g => Or.inl g)⟩, hf2.mono fun k _ hk => by subst hk; exact HD.out.fd⟩
    · have hc' : chg S.arm S.down = false := Bool.eq_false_iff.2 hc
      have hr : S.trunc s m = ({ S.change with f := setF S.f { f with b := f.b.take m, safe := min f.safe m } }, 0) := by
        unfold DS.trunc; rw [if_pos hok, hg]; exact (if_neg (by omega)).trans (if_neg hc)
      rw [hr]
      rw [hc', if_neg (by decide)] at HC
      have HE : Hid (chg S.arm S.down = false) := hc'
      have hm : m ≤ f.b.length := by omega
      clear h hok hr hg h1 h2 hc hc' hl
      go_enter Try.func15, Try.ntmps15
      go_wp2_with (first
        | (go_at_call 33; (with_reducible refine HN.out.mono ?_); rintro e w1 ⟨rfl, rfl⟩)
        | (go_at_call 35; (with_reducible refine HC.out.mono ?_); rintro e w2 ⟨rfl, hc2, hf2⟩; have hF2 := H3.out.fr hf2 (fun k hk => by subst hk; exact NoByte.disk HD.out.cells) hfd; have HF2 := Lib.hid hF2; have HC3 := Lib.hid (cut_any hlf hm hF2); clear hF2)
        | (go_at_call 37; (with_reducible refine HC3.out.mono ?_); rintro e w3 ⟨rfl, hF3, hf3⟩; have HF3 := Lib.hid hF3; obtain ⟨a3, cap3, c1, c2, c3⟩ := hF3; obtain ⟨r0, r1, y0, y1⟩ := two_cell c1; clear c1 c2 c3))
      all_goals
        go_ret
        have hD2 := HD.out.setCells (by rw [← HE.out] at hc2; exact hc2) hf2
        have hset := HF3.out.setSafe (min f.safe m)
        have hfr4 : Fr (isR fb) w2 (w3.setCell ⟨fb, 1, none⟩ (.int .i64 (min f.safe m : Nat))) := hf3.again (fr_set _)
        have hD3 := DkIn.setFile (g := f) (f := { f with b := f.b.take m, safe := min f.safe m }) hD2 HG.out H2.out (show f.name = s from getF_name HG.out) hset HF2.out hfr4
        refine ⟨rfl, ⟨D, ?_⟩, ?_⟩
        · first
            | (have e4 : min f.safe m = m := by omega
               rw [e4] at hD3 ⊢
               exact hD3.mono fun _ g => Or.inl g)
            | (have e4 : min f.safe m = f.safe := by omega
               rw [e4] at hD3 ⊢
               exact hD3.mono fun _ g => Or.inl g)
        · have hfr5 := (hf2.mono (T := F) fun k _ hk => by subst hk; exact HD.out.fd).again (hfr4.mono fun k _ hk => by subst hk; exact H1.out)
          first
            | (have e4 : min f.safe m = m := by omega
               rw [e4] at hfr5
               exact hfr5)
            | (have e4 : min f.safe m = f.safe := by omega
               rw [e4] at hfr5
               exact hfr5)
end Go.Proofs.Ytbkelbdeodbhcaa
