/- The disk: Read, Sync. Conditions: as in the text. -/
import Derived.Test.YtlefejokpdjpgaaGreatDiskF
set_option linter.unusedSimpArgs false
set_option linter.unusedVariables false
set_option linter.unnecessarySimpa false
set_option maxHeartbeats 16000000
set_option maxRecDepth 100000
namespace Go.Proofs.YtlefejokpdjpgaaGreat
open Go.RowKit
variable {F : Nat → Prop} {d : Nat} {S : DS} {b : Nat} {D : DataW Unit} {s : ByteArray} {w w' : World}
theorem DkIn.mono {G : Nat → Prop} (h : DkIn w F d S b D) (hG : ∀ k, F k → G k) : DkIn w G d S b D :=
 ⟨hG _ h.fd, h.cells, hG _ h.fb, h.own, h.files.none, fun s f hg => let ⟨fb, h1, h2, h3⟩ := h.files.some s f hg; ⟨fb, hG _ h1, h2, h3⟩, h.files.apart, h.files.has, h.files.size⟩
/-- a change of a disk: its answer, the disk behind it; what was there ahead and is not the disk's stays -/
def RetDk (F : Nat → Prop) (d b : Nat) (S' : DS) (c : Int) (w : World) (e : Ending) (w' : World) : Prop :=
 e = .returned (.int .i64 c) ∧ (∃ D', DkIn w' (grow F w) d S' b D') ∧ Fr F w w'
theorem RetDk.same {c : Int} (h : DkIn w F d S b D) : RetDk F d b S c w (.returned (.int .i64 c)) w := ⟨rfl, ⟨D, h.mono fun _ g => Or.inl g⟩, Fr.refl _ _⟩
/-! ### Read -/
/-- why a file's bytes are not told: 17 nil, 1 form, 10 none, 12 down; 0 -/
def readE (S : DS) (s : ByteArray) : Int := if nameOk s then (match getF S.f s with | none => 10 | some _ => if S.down then 12 else 0) else 1
theorem Read_nil (s : ByteArray) (w : World) : Calls Tryz.prog 30 #[.pointer none, .string s] w fun e w' => e = .returned (.tuple #[.slice none 0 0, .int .i64 17]) ∧ w = w' := by
 have HN := Lib.hid (find_nil s w)
 go_enter Tryz.func30, Tryz.ntmps30
 go_wp2_with (go_at_call 51; (with_reducible refine HN.out.mono ?_); rintro e w1 ⟨rfl, rfl⟩)
 all_goals
  go_ret2
  exact ⟨rfl, rfl⟩
theorem Read_no (hs : s.size ≤ maxLen) (h : DkIn w F d S b D) (hE : readE S s ≠ 0) :
 Calls Tryz.prog 30 #[.pointer (some ⟨d, 0, none⟩), .string s] w fun e w' => e = .returned (.tuple #[.slice none 0 0, .int .i64 (readE S s)]) ∧ w = w' := by
 by_cases hok : nameOk s = true
 case neg =>
  have HN := Lib.hid (find_form (d := d) (w := w) hs rfl (Bool.eq_false_iff.2 hok))
  have hr : readE S s = 1 := by unfold readE; rw [if_neg hok]
  rw [hr]
  clear h hok hr hE
  go_enter Tryz.func30, Tryz.ntmps30
  go_wp2_with (go_at_call 51; (with_reducible refine HN.out.mono ?_); rintro e w1 ⟨rfl, rfl⟩)
  all_goals
   go_ret2
   exact ⟨rfl, rfl⟩
 case pos =>
 cases hg : getF S.f s with
 | none =>
   have HN := Lib.hid (find_none hs h hok hg)
   have hr : readE S s = 10 := by unfold readE; rw [if_pos hok, hg]
   rw [hr]
   clear h hok hr hg hE
   go_enter Tryz.func30, Tryz.ntmps30
   go_wp2_with (go_at_call 51; (with_reducible refine HN.out.mono ?_); rintro e w1 ⟨rfl, rfl⟩)
   all_goals
    go_ret2
    exact ⟨rfl, rfl⟩
 | some f =>
   have hd : S.down = true := by
    cases hd : S.down with
    | true => rfl
    | false => exact absurd (by unfold readE; rw [if_pos hok, hg, hd]; rfl) hE
   obtain ⟨fb, h1, h2, a, cap, h3, h4, h5⟩ := h.files.some s f hg
   have HN := Lib.hid (find_some hs h hok h2)
   have hr : readE S s = 12 := by unfold readE; rw [if_pos hok, hg, hd]; rfl
   rw [hr]
   obtain ⟨q0, q1, q2, g0, g1, g2⟩ := three_cell h.cells
   rw [hd] at q2
   clear h hok hr hg h2 h3 h4 hE
   go_enter Tryz.func30, Tryz.ntmps30
   go_wp2_with (go_at_call 51; (with_reducible refine HN.out.mono ?_); rintro e w1 ⟨rfl, rfl⟩)
   all_goals
    go_ret2
    exact ⟨rfl, rfl⟩
theorem Read_yes {f : DF} (hs : s.size ≤ maxLen) (h : DkIn w F d S b D) (hok : nameOk s = true) (hg : getF S.f s = some f) (hd : S.down = false) (hl : f.b.length ≤ 1073741824) :
 Calls Tryz.prog 30 #[.pointer (some ⟨d, 0, none⟩), .string s] w fun e w' => ∃ v, e = .returned (.tuple #[v, .int .i64 0]) ∧ w'.ownsRow w.heap.size 5 1 v f.b.length (byteVals f.b) ∧ Below w.heap.size w w' := by
 obtain ⟨fb, h1, h2, h3⟩ := h.files.some s f hg
 have HN := Lib.hid (find_some hs h hok h2)
 have HA := Lib.hid (all_any hl h3)
 obtain ⟨q0, q1, q2, g0, g1, g2⟩ := three_cell h.cells
 rw [hd] at q2
 clear h hok hg h2 h3
 go_enter Tryz.func30, Tryz.ntmps30
 go_wp2_with (first
  | (go_at_call 51; (with_reducible refine HN.out.mono ?_); rintro e w1 ⟨rfl, rfl⟩)
  | (go_at_call 61; (with_reducible refine HA.out.mono ?_); rintro e w1 ⟨v, rfl, hown, hb⟩))
 all_goals
  go_ret2
  exact ⟨v, rfl, hown, hb⟩
/-! ### Sync -/
def DS.sync (S : DS) (s : ByteArray) : DS × Int :=
 if nameOk s then (match getF S.f s with
    | none => (S, 10)
    | some f => if S.change.down then (S.change, 12) else ({ S.change with f := setF S.f { f with safe := f.b.length } }, 0)) else (S, 1)
theorem Sync_nil (s : ByteArray) (w : World) : Calls Tryz.prog 26 #[.pointer none, .string s] w fun e w' => e = .returned (.int .i64 17) ∧ w = w' := by
 have HN := Lib.hid (find_nil s w)
 go_enter Tryz.func26, Tryz.ntmps26
 go_wp2_with (go_at_call 51; (with_reducible refine HN.out.mono ?_); rintro e w1 ⟨rfl, rfl⟩)
 all_goals
  go_ret
  exact ⟨rfl, rfl⟩
theorem FileAt.setSafe {fb : Nat} {f : DF} (h : FileAt w fb f) (n : Nat) : FileAt (w.setCell ⟨fb, 1, none⟩ (.int .i64 n)) fb { f with safe := n } := by
 obtain ⟨a, cap, h1, h2, h3⟩ := h
 exact ⟨a, cap, two_set1 h1 _, h2.fr (S := isR fb) (fr_set _) (fun k hk => by subst hk; exact NoByte.file h1), h3⟩
theorem Sync_any (hs : s.size ≤ maxLen) (h : DkIn w F d S b D) (ha : S.arm ≤ 1048576) :
 Calls Tryz.prog 26 #[.pointer (some ⟨d, 0, none⟩), .string s] w (RetDk F d b (S.sync s).1 (S.sync s).2 w) := by
 by_cases hok : nameOk s = true
 case neg =>
  have HN := Lib.hid (find_form (d := d) (w := w) hs rfl (Bool.eq_false_iff.2 hok))
  have hr : S.sync s = (S, 1) := by unfold DS.sync; rw [if_neg hok]
  rw [hr]
  have HD := Lib.hid h
  clear h hok hr
  go_enter Tryz.func26, Tryz.ntmps26
  go_wp2_with (go_at_call 51; (with_reducible refine HN.out.mono ?_); rintro e w1 ⟨rfl, rfl⟩)
  all_goals
   go_ret
   exact RetDk.same HD.out
 case pos =>
 cases hg : getF S.f s with
 | none =>
   have HN := Lib.hid (find_none hs h hok hg)
   have hr : S.sync s = (S, 10) := by unfold DS.sync; rw [if_pos hok, hg]
   rw [hr]
   have HD := Lib.hid h
   clear h hok hr hg
   go_enter Tryz.func26, Tryz.ntmps26
   go_wp2_with (go_at_call 51; (with_reducible refine HN.out.mono ?_); rintro e w1 ⟨rfl, rfl⟩)
   all_goals
    go_ret
    exact RetDk.same HD.out
 | some f =>
   obtain ⟨fb, h1, h2, h3⟩ := h.files.some s f hg
   have HN := Lib.hid (find_some hs h hok h2)
   have HC := Lib.hid (change_any d b S.arm S.down w h.cells ha)
   have HD := Lib.hid h
   have H1 := Lib.hid h1
   have H2 := Lib.hid h2
   have H3 := Lib.hid h3
   have HG := Lib.hid hg
   have hfd := file_noDisk h3 h.cells
   by_cases hc : chg S.arm S.down = true
   ·have hr : S.sync s = (S.change, 12) := by unfold DS.sync; rw [if_pos hok, hg]; exact if_pos hc
    rw [hr]
    rw [hc, if_pos rfl] at HC
    have HE : Hid (chg S.arm S.down = true) := hc
    clear h hok hr hg h1 h2 h3 hc
    go_enter Tryz.func26, Tryz.ntmps26
    go_wp2_with (first
        | (go_at_call 51; (with_reducible refine HN.out.mono ?_); rintro e w1 ⟨rfl, rfl⟩)
        | (go_at_call 52; (with_reducible refine HC.out.mono ?_); rintro e w2 ⟨rfl, hc2, hf2⟩))
    all_goals
        go_ret
        exact ⟨rfl, ⟨D, ((HD.out.setCells (by rw [← HE.out] at hc2; exact hc2) hf2).mono fun _ g => Or.inl g)⟩, hf2.mono fun k _ hk => by subst hk; exact HD.out.fd⟩
   ·have hc' : chg S.arm S.down = false := Bool.eq_false_iff.2 hc
    have hr : S.sync s = ({ S.change with f := setF S.f { f with safe := f.b.length } }, 0) := by unfold DS.sync; rw [if_pos hok, hg]; exact if_neg hc
    rw [hr]
    rw [hc', if_neg (by decide)] at HC
    have HE : Hid (chg S.arm S.down = false) := hc'
    clear h hok hr hg h1 h2 h3 hc hc'
    go_enter Tryz.func26, Tryz.ntmps26
    go_wp2_with (first
        | (go_at_call 51; (with_reducible refine HN.out.mono ?_); rintro e w1 ⟨rfl, rfl⟩)
        | (go_at_call 52; (with_reducible refine HC.out.mono ?_); rintro e w2 ⟨rfl, hc2, hf2⟩; have hF2 := H3.out.fr hf2 (fun k hk => by subst hk; exact NoByte.disk HD.out.cells) hfd; have HF2 := Lib.hid hF2; obtain ⟨a, cap, b1, b2, b3⟩ := hF2; obtain ⟨p0, p1, f0, f1⟩ := two_cell b1; clear b1 b2 b3))
    all_goals
        go_ret
        have hD2 := HD.out.setCells (by rw [← HE.out] at hc2; exact hc2) hf2
        have hD3 := DkIn.setFile (g := f) (f := { f with safe := f.b.length }) hD2 HG.out H2.out (show f.name = s from getF_name HG.out) (HF2.out.setSafe _) HF2.out (fr_set _)
        exact ⟨rfl, ⟨D, hD3.mono fun _ g => Or.inl g⟩, (hf2.mono fun k _ hk => by subst hk; exact HD.out.fd).again ((fr_set _).mono fun k _ hk => by subst hk; exact H1.out)⟩
variable {F : Nat → Prop} {d : Nat} {S : DS} {b : Nat} {D : DataW Unit} {s : ByteArray} {w w' : World}
/-! ### Remove -/
def delF (l : List DF) (s : ByteArray) : List DF := l.filter fun f => !decide (f.name = s)
theorem getF_delF (l : List DF) (s t : ByteArray) : getF (delF l s) t = if t = s then none else getF l t := by
 unfold getF delF
 induction l with
 | nil => simp
 | cons g r ih =>
   by_cases hg : g.name = s
   ·rw [List.filter_cons_of_neg (by simp [hg]), List.find?_cons, ih]
    by_cases ht : t = s
    ·simp [ht]
    ·have e : decide (g.name = t) = false := decide_eq_false (fun e => ht (e.symm.trans hg))
     rw [e]
   ·rw [List.filter_cons_of_pos (by simp [hg]), List.find?_cons, List.find?_cons, ih]
    by_cases ht : t = s
    ·subst ht
     simp [hg]
    ·simp [ht]
def DS.remove (S : DS) (s : ByteArray) : DS × Int :=
 if nameOk s then (match getF S.f s with
    | none => (S, 10)
    | some _ => if S.change.down then (S.change, 12) else ({ S.change with f := delF S.f s }, 0)) else (S, 1)
/-- no two files bear one name -/
def Uniq (l : List DF) : Prop := l.Pairwise fun f g => f.name ≠ g.name
theorem delF_none {l : List DF} {s : ByteArray} (h : getF l s = none) : delF l s = l := by
 unfold getF at h
 unfold delF
 rw [List.filter_eq_self]
 intro f hf
 have := List.find?_eq_none.1 h f hf
 simpa using this
theorem delF_len : ∀ {l : List DF} {s : ByteArray} {f : DF}, Uniq l → getF l s = some f → (delF l s).length + 1 = l.length
 | [], s, f, _, h => by simp [getF] at h
 | g :: r, s, f, hu, h => by
   obtain ⟨h1, h2⟩ := List.pairwise_cons.1 hu
   by_cases hg : g.name = s
   ·have hn : getF r s = none := by
        unfold getF
        rw [List.find?_eq_none]
        intro x hx
        have := h1 x hx
        simp only [decide_eq_true_eq]
        intro e
        exact this (hg.trans e.symm)
    have e1 : delF (g :: r) s = delF r s := by unfold delF; rw [List.filter_cons_of_neg (by simp [hg])]
    rw [e1, delF_none hn]
    rfl
   ·have e1 : delF (g :: r) s = g :: delF r s := by unfold delF; rw [List.filter_cons_of_pos (by simp [hg])]
    have e2 : getF r s = some f := by
        unfold getF at h ⊢
        rw [List.find?_cons, show decide (g.name = s) = false from decide_eq_false hg] at h
        exact h
    have := delF_len h2 e2
    rw [e1]
    simp only [List.length_cons]
    omega
theorem ownsMap_tight {w : World} {b n : Nat} {D : DataW Unit} (h : w.ownsMap Tryz.prog 9 fileR b n D) : w.ownsMap Tryz.prog 9 fileR b (Maps.size D) D := by
 obtain ⟨es, cl, hb, Ft, hs, rfl⟩ := h
 exact ⟨es, cl, hb, Ft, by simp [Maps.size, length_sorted], rfl⟩
theorem fr_map (h : w.grownBy w' (some b)) : Fr (isR b) w w' := ⟨h.os, h.tape, h.output, h.size, fun k hk hb => h.block k hk (fun e => hb (by simpa using e))⟩
variable {F : Nat → Prop} {d : Nat} {S : DS} {b : Nat} {D : DataW Unit} {s : ByteArray} {w w' : World}
/-! ### Truncate -/
def DS.trunc (S : DS) (s : ByteArray) (n : Int) : DS × Int :=
 if nameOk s then (match getF S.f s with
    | none => (S, 10)
    | some f => if n < 0 ∨ (f.b.length : Int) < n then (S, 4) else if S.change.down then (S.change, 12) else ({ S.change with f := setF S.f { f with b := f.b.take n.toNat, safe := min f.safe n.toNat } }, 0)) else (S, 1)
theorem Truncate_nil (s : ByteArray) (n : Int) (w : World) : Calls Tryz.prog 32 #[.pointer none, .string s, .int .i64 n] w fun e w' => e = .returned (.int .i64 17) ∧ w = w' := by
 have HN := Lib.hid (find_nil s w)
 go_enter Tryz.func32, Tryz.ntmps32
 go_wp2_with (go_at_call 51; (with_reducible refine HN.out.mono ?_); rintro e w1 ⟨rfl, rfl⟩)
 all_goals
  go_ret
  exact ⟨rfl, rfl⟩
end Go.Proofs.YtlefejokpdjpgaaGreat
