/- The disk: Read, Sync. Conditions: as in the text. -/
import Derived.Test.YtbkelbdeodbhcaaDiskF
set_option linter.unusedSimpArgs false
set_option linter.unusedVariables false
set_option linter.unnecessarySimpa false
namespace Go.Proofs.Ytbkelbdeodbhcaa
open Go.RowKit

variable {F : Nat → Prop} {d : Nat} {S : DS} {b : Nat} {D : DataW Unit} {s : ByteArray} {w w' : World}

theorem DkIn.mono {G : Nat → Prop} (h : DkIn w F d S b D) (hG : ∀ k, F k → G k) : DkIn w G d S b D :=
  ⟨hG _ h.fd, h.cells, hG _ h.fb, h.own, h.files.none, fun s f hg => let ⟨fb, h1, h2, h3⟩ := h.files.some s f hg; ⟨fb, hG _ h1, h2, h3⟩, h.files.apart, h.files.has, h.files.size⟩
/-- a change of a disk: its answer, the disk behind it; what was there ahead and is not the disk's stays -/
def RetDk (F : Nat → Prop) (d b : Nat) (S' : DS) (c : Int) (w : World) (e : Ending) (w' : World) : Prop :=
  e = .returned (.int .i64 c) ∧ (∃ D', DkIn w' (grow F w) d S' b D') ∧ Fr F w w'
theorem RetDk.same {c : Int} (h : DkIn w F d S b D) : RetDk F d b S c w (.returned (.int .i64 c)) w := ⟨rfl, ⟨D, h.mono fun _ g => Or.inl g⟩, Fr.refl _ _⟩

/-! ### Read -/
/-- why a file's bytes are not told: 17 nil, 1 form, 10 none, 12 down; 0 -/
def readE (S : DS) (s : ByteArray) : Int := if nameOk s then (match getF S.f s with | none => 10 | some _ => if S.down then 12 else 0) else 1
set_option maxHeartbeats 400000 in
theorem Read_nil (s : ByteArray) (w : World) : Calls Try.prog 10 #[.pointer none, .string s] w fun e w' => e = .returned (.tuple #[.slice none 0 0, .int .i64 17]) ∧ w = w' := by
  have HN := Lib.hid (find_nil s w)
  go_enter Try.func10, Try.ntmps10
  go_wp2_with (go_at_call 33; (with_reducible refine HN.out.mono ?_); rintro e w1 ⟨rfl, rfl⟩)
  all_goals
    go_ret2
    exact ⟨rfl, rfl⟩
set_option maxHeartbeats 400000 in
theorem Read_no (hs : s.size ≤ maxLen) (h : DkIn w F d S b D) (hE : readE S s ≠ 0) :
    Calls Try.prog 10 #[.pointer (some ⟨d, 0, none⟩), .string s] w fun e w' => e = .returned (.tuple #[.slice none 0 0, .int .i64 (readE S s)]) ∧ w = w' := by
  by_cases hok : nameOk s = true
  case neg =>
    have HN := Lib.hid (find_form (d := d) (w := w) hs rfl (Bool.eq_false_iff.2 hok))
    have hr : readE S s = 1 := by unfold readE; rw [if_neg hok]
    rw [hr]
    clear h hok hr hE
    go_enter Try.func10, Try.ntmps10
    go_wp2_with (go_at_call 33; (with_reducible refine HN.out.mono ?_); rintro e w1 ⟨rfl, rfl⟩)
    all_goals
      go_ret2
      exact ⟨rfl, rfl⟩
  case pos =>
  cases hg : getF S.f s with
  | none =>
    have HN := Lib.hid (find_none hs h hok hg)
    have hr : readE S s = 10 := by unfold readE; rw [if_pos hok, hg]
    rw [hr]
    clear h hok hr hg hE
    go_enter Try.func10, Try.ntmps10
    go_wp2_with (go_at_call 33; (with_reducible refine HN.out.mono ?_); rintro e w1 ⟨rfl, rfl⟩)
    all_goals
      go_ret2
      exact ⟨rfl, rfl⟩
  | some f =>
    have hd : S.down = true := by
      cases hd : S.down with
      | true => rfl
      | false => exact absurd (by unfold readE; rw [if_pos hok, hg, hd]; rfl) hE
    obtain ⟨fb, h1, h2, a, cap, h3, h4, h5⟩ := h.files.some s f hg
    have HN := Lib.hid (find_some hs h hok h2)
    have hr : readE S s = 12 := by unfold readE; rw [if_pos hok, hg, hd]; rfl
    rw [hr]
    obtain ⟨q0, q1, q2, g0, g1, g2⟩ := three_cell h.cells
    rw [hd] at q2
    clear h hok hr hg h2 h3 h4 hE
    go_enter Try.func10, Try.ntmps10
    go_wp2_with (go_at_call 33; (with_reducible refine HN.out.mono ?_); rintro e w1 ⟨rfl, rfl⟩)
    all_goals
      go_ret2
      exact ⟨rfl, rfl⟩
set_option maxHeartbeats 400000 in
theorem Read_yes {f : DF} (hs : s.size ≤ maxLen) (h : DkIn w F d S b D) (hok : nameOk s = true) (hg : getF S.f s = some f) (hd : S.down = false) (hl : f.b.length ≤ 1073741824) :
    Calls Try.prog 10 #[.pointer (some ⟨d, 0, none⟩), .string s] w fun e w' => ∃ v, e = .returned (.tuple #[v, .int .i64 0]) ∧ w'.ownsRow w.heap.size 5 1 v f.b.length (byteVals f.b) ∧ Below w.heap.size w w' := by
  obtain ⟨fb, h1, h2, h3⟩ := h.files.some s f hg
  have HN := Lib.hid (find_some hs h hok h2)
  have HA := Lib.hid (all_any hl h3)
  obtain ⟨q0, q1, q2, g0, g1, g2⟩ := three_cell h.cells
  rw [hd] at q2
  clear h hok hg h2 h3
  go_enter Try.func10, Try.ntmps10
  go_wp2_with (first
    | (go_at_call 33; (with_reducible refine HN.out.mono ?_); rintro e w1 ⟨rfl, rfl⟩)
    | (go_at_call 34; (with_reducible refine HA.out.mono ?_); rintro e w1 ⟨v, rfl, hown, hb⟩))
  all_goals
    go_ret2
    exact ⟨v, rfl, hown, hb⟩

/-! ### Sync -/
def DS.sync (S : DS) (s : ByteArray) : DS × Int :=
  if nameOk s then (match getF S.f s with
    | none => (S, 10)
    | some f => if S.change.down then (S.change, 12) else ({ S.change with f := setF S.f { f with safe := f.b.length } }, 0)) else (S, 1)
set_option maxHeartbeats 400000 in
theorem Sync_nil (s : ByteArray) (w : World) : Calls Try.prog 21 #[.pointer none, .string s] w fun e w' => e = .returned (.int .i64 17) ∧ w = w' := by
  have HN := Lib.hid (find_nil s w)
  go_enter Try.func21, Try.ntmps21
  go_wp2_with (go_at_call 33; (with_reducible refine HN.out.mono ?_); rintro e w1 ⟨rfl, rfl⟩)
  all_goals
    go_ret
    exact ⟨rfl, rfl⟩
theorem FileAt.setSafe {fb : Nat} {f : DF} (h : FileAt w fb f) (n : Nat) : FileAt (w.setCell ⟨fb, 1, none⟩ (.int .i64 n)) fb { f with safe := n } := by
  obtain ⟨a, cap, h1, h2, h3⟩ := h
  exact ⟨a, cap, two_set1 h1 _, h2.fr (S := isR fb) (fr_set _) (fun k hk => by subst hk; exact NoByte.file h1), h3⟩
set_option maxHeartbeats 400000 in
theorem Sync_any (hs : s.size ≤ maxLen) (h : DkIn w F d S b D) (ha : S.arm ≤ 1048576) :
    Calls Try.prog 21 #[.pointer (some ⟨d, 0, none⟩), .string s] w (RetDk F d b (S.sync s).1 (S.sync s).2 w) := by
  by_cases hok : nameOk s = true
  case neg =>
    have HN := Lib.hid (find_form (d := d) (w := w) hs rfl (Bool.eq_false_iff.2 hok))
    have hr : S.sync s = (S, 1) := by unfold DS.sync; rw [if_neg hok]
    rw [hr]
    have HD := Lib.hid h
    clear h hok hr
    go_enter Try.func21, Try.ntmps21
    go_wp2_with (go_at_call 33; (with_reducible refine HN.out.mono ?_); rintro e w1 ⟨rfl, rfl⟩)
    all_goals
      go_ret
      exact RetDk.same HD.out
  case pos =>
  cases hg : getF S.f s with
  | none =>
    have HN := Lib.hid (find_none hs h hok hg)
    have hr : S.sync s = (S, 10) := by unfold DS.sync; rw [if_pos hok, hg]
    rw [hr]
    have HD := Lib.hid h
    clear h hok hr hg
    go_enter Try.func21, Try.ntmps21
    go_wp2_with (go_at_call 33; (with_reducible refine HN.out.mono ?_); rintro e w1 ⟨rfl, rfl⟩)
    all_goals
      go_ret
      exact RetDk.same HD.out
  | some f =>
    obtain ⟨fb, h1, h2, h3⟩ := h.files.some s f hg
    have HN := Lib.hid (find_some hs h hok h2)
    have HC := Lib.hid (change_any d b S.arm S.down w h.cells ha)
    have HD := Lib.hid h
    have H1 := Lib.hid h1
    have H2 := Lib.hid h2
    have H3 := Lib.hid h3
    have HG := Lib.hid hg
    have hfd := file_noDisk h3 h.cells
    by_cases hc : chg S.arm S.down = true
    · have hr : S.sync s = (S.change, 12) := by unfold DS.sync; rw [if_pos hok, hg]; exact if_pos hc
      rw [hr]
      rw [hc, if_pos rfl] at HC
      have HE : Hid (chg S.arm S.down = true) := hc
      clear h hok hr hg h1 h2 h3 hc
      go_enter Try.func21, Try.ntmps21
      go_wp2_with (first
        | (go_at_call 33; (with_reducible refine HN.out.mono ?_); rintro e w1 ⟨rfl, rfl⟩)
        | (go_at_call 35; (with_reducible refine HC.out.mono ?_); rintro e w2 ⟨rfl, hc2, hf2⟩))
      all_goals
        go_ret
        exact ⟨rfl, ⟨D, ((HD.out.setCells (by rw [← HE.out] at hc2; exact hc2) hf2).mono fun _ g => Or.inl g)⟩, hf2.mono fun k _ hk => by subst hk; exact HD.out.fd⟩
    · have hc' : chg S.arm S.down = false := Bool.eq_false_iff.2 hc
      have hr : S.sync s = ({ S.change with f := setF S.f { f with safe := f.b.length } }, 0) := by unfold DS.sync; rw [if_pos hok, hg]; exact if_neg hc
      rw [hr]
      rw [hc', if_neg (by decide)] at HC
      have HE : Hid (chg S.arm S.down = false) := hc'
      clear h hok hr hg h1 h2 h3 hc hc'
      go_enter Try.func21, Try.ntmps21
      go_wp2_with (first
        | (go_at_call 33; (with_reducible refine HN.out.mono ?_); rintro e w1 ⟨rfl, rfl⟩)
        | (go_at_call 35; (with_reducible refine HC.out.mono ?_); rintro e w2 ⟨rfl, hc2, hf2⟩; have hF2 := H3.out.fr hf2 (fun k hk => by subst hk; exact NoByte.disk HD.out.cells) hfd; have HF2 := Lib.hid hF2; obtain ⟨a, cap, b1, b2, b3⟩ := hF2; obtain ⟨p0, p1, f0, f1⟩ := two_cell b1; clear b1 b2 b3))
      all_goals
        go_ret
        have hD2 := HD.out.setCells (by rw [← HE.out] at hc2; exact hc2) hf2
        have hD3 := DkIn.setFile (g := f) (f := { f with safe := f.b.length }) hD2 HG.out H2.out (show f.name = s from getF_name HG.out) (HF2.out.setSafe _) HF2.out (fr_set _)
        exact ⟨rfl, ⟨D, hD3.mono fun _ g => Or.inl g⟩, (hf2.mono fun k _ hk => by subst hk; exact HD.out.fd).again ((fr_set _).mono fun k _ hk => by subst hk; exact H1.out)⟩
end Go.Proofs.Ytbkelbdeodbhcaa
