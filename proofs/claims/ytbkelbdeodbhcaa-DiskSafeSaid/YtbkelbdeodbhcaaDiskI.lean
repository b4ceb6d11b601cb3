/- The disk: Remove. Conditions: as in the text. -/
import Derived.Test.YtbkelbdeodbhcaaDiskH
set_option linter.unusedSimpArgs false
set_option linter.unusedVariables false
set_option linter.unnecessarySimpa false
namespace Go.Proofs.Ytbkelbdeodbhcaa
open Go.RowKit

variable {F : Nat → Prop} {d : Nat} {S : DS} {b : Nat} {D : DataW Unit} {s : ByteArray} {w w' : World}

set_option maxHeartbeats 400000 in
theorem Remove_nil (s : ByteArray) (w : World) : Calls Try.prog 23 #[.pointer none, .string s] w fun e w' => e = .returned (.int .i64 17) ∧ w = w' := by
  have HN := Lib.hid (find_nil s w)
  go_enter Try.func23, Try.ntmps23
  go_wp2_with (go_at_call 33; (with_reducible refine HN.out.mono ?_); rintro e w1 ⟨rfl, rfl⟩)
  all_goals
    go_ret
    exact ⟨rfl, rfl⟩
set_option maxHeartbeats 400000 in
theorem Remove_any (hs : s.size ≤ maxLen) (h : DkIn w F d S b D) (hu : Uniq S.f) (ha : S.arm ≤ 1048576) :
    Calls Try.prog 23 #[.pointer (some ⟨d, 0, none⟩), .string s] w (RetDk F d b (S.remove s).1 (S.remove s).2 w) := by
  by_cases hok : nameOk s = true
  case neg =>
    have HN := Lib.hid (find_form (d := d) (w := w) hs rfl (Bool.eq_false_iff.2 hok))
    have hr : S.remove s = (S, 1) := by unfold DS.remove; rw [if_neg hok]
    rw [hr]
    have HD := Lib.hid h
    clear h hok hr hu
    go_enter Try.func23, Try.ntmps23
    go_wp2_with (go_at_call 33; (with_reducible refine HN.out.mono ?_); rintro e w1 ⟨rfl, rfl⟩)
    all_goals
      go_ret
      exact RetDk.same HD.out
  case pos =>
  cases hg : getF S.f s with
  | none =>
    have HN := Lib.hid (find_none hs h hok hg)
    have hr : S.remove s = (S, 10) := by unfold DS.remove; rw [if_pos hok, hg]
    rw [hr]
    have HD := Lib.hid h
    clear h hok hr hg hu
    go_enter Try.func23, Try.ntmps23
    go_wp2_with (go_at_call 33; (with_reducible refine HN.out.mono ?_); rintro e w1 ⟨rfl, rfl⟩)
    all_goals
      go_ret
      exact RetDk.same HD.out
  | some f =>
    obtain ⟨fb, h1, h2, h3⟩ := h.files.some s f hg
    have HN := Lib.hid (find_some hs h hok h2)
    have HC := Lib.hid (change_any d b S.arm S.down w h.cells ha)
    have HD := Lib.hid h
    have HG := Lib.hid hg
    have HU := Lib.hid hu
    by_cases hc : chg S.arm S.down = true
    · have hr : S.remove s = (S.change, 12) := by unfold DS.remove; rw [if_pos hok, hg]; exact if_pos hc
      rw [hr]
      rw [hc, if_pos rfl] at HC
      have HE : Hid (chg S.arm S.down = true) := hc
      clear h hok hr hg h1 h2 h3 hc hu
      go_enter Try.func23, Try.ntmps23
      go_wp2_with (first
        | (go_at_call 33; (with_reducible refine HN.out.mono ?_); rintro e w1 ⟨rfl, rfl⟩)
        | (go_at_call 35; (with_reducible refine HC.out.mono ?_); rintro e w2 ⟨rfl, hc2, hf2⟩))
      all_goals
        go_ret
        exact ⟨rfl, ⟨D, ((HD.out.setCells (by rw [← HE.out] at hc2; exact hc2) hf2).mono fun _ g => Or.inl g)⟩, hf2.mono fun k _ hk => by subst hk; exact HD.out.fd⟩
    · have hc' : chg S.arm S.down = false := Bool.eq_false_iff.2 hc
      have hr : S.remove s = ({ S.change with f := delF S.f s }, 0) := by unfold DS.remove; rw [if_pos hok, hg]; exact if_neg hc
      rw [hr]
      rw [hc', if_neg (by decide)] at HC
      have HE : Hid (chg S.arm S.down = false) := hc'
      clear h hok hr hg h1 h2 h3 hc hc' hu
      go_enter Try.func23, Try.ntmps23
      go_wp2_with (first
        | (go_at_call 33; (with_reducible refine HN.out.mono ?_); rintro e w1 ⟨rfl, rfl⟩)
        | (go_at_call 35; (with_reducible refine HC.out.mono ?_); rintro e w2 ⟨rfl, hc2, hf2⟩; have HD2 := Lib.hid (HD.out.setCells (by rw [← HE.out] at hc2; exact hc2) hf2); have hown2 := HD2.out.own; obtain ⟨q0, q1, q2, g0, g1, g2⟩ := three_cell hc2)
        | (at_delete; refine wpList_delete_own _ rfl _ _ 60 9 rfl 69 nlaw Try.underlying60 fileR b _ D rfl hown2 _ (nk s) rfl (nk_key hs) ?_; intro w3 hown3 hturn3))
      all_goals
        go_ret
        have hfm := fr_map hturn3.grown
        exact ⟨rfl, ⟨_, (HD2.out.delFile HU.out HG.out hown3 hfm).mono fun _ g => Or.inl g⟩, (hf2.mono fun k _ hk => by subst hk; exact HD.out.fd).again (hfm.mono fun k _ hk => by subst hk; exact HD.out.fb)⟩

/-! ### Truncate -/
def DS.trunc (S : DS) (s : ByteArray) (n : Int) : DS × Int :=
  if nameOk s then (match getF S.f s with
    | none => (S, 10)
    | some f => if n < 0 ∨ (f.b.length : Int) < n then (S, 4) else if S.change.down then (S.change, 12) else ({ S.change with f := setF S.f { f with b := f.b.take n.toNat, safe := min f.safe n.toNat } }, 0)) else (S, 1)
set_option maxHeartbeats 400000 in
theorem Truncate_nil (s : ByteArray) (n : Int) (w : World) : Calls Try.prog 15 #[.pointer none, .string s, .int .i64 n] w fun e w' => e = .returned (.int .i64 17) ∧ w = w' := by
  have HN := Lib.hid (find_nil s w)
  go_enter Try.func15, Try.ntmps15
  go_wp2_with (go_at_call 33; (with_reducible refine HN.out.mono ?_); rintro e w1 ⟨rfl, rfl⟩)
  all_goals
    go_ret
    exact ⟨rfl, rfl⟩
end Go.Proofs.Ytbkelbdeodbhcaa
