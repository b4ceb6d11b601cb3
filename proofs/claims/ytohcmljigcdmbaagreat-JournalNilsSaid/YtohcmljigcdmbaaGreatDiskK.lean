/- The disk: Truncate, Remove. Conditions: as in the text. -/
import Derived.Test.YtohcmljigcdmbaaGreatDRef
set_option linter.unusedSimpArgs false
set_option linter.unusedVariables false
set_option linter.unnecessarySimpa false
set_option maxHeartbeats 16000000
set_option maxRecDepth 100000
namespace Go.Proofs.YtohcmljigcdmbaaGreat
open Go.RowKit
variable {F : Nat → Prop} {d : Nat} {S : DS} {b : Nat} {D : DataW Unit} {s : ByteArray} {w w' : World}
/-! ### Remove -/
def delF (l : List DF) (s : ByteArray) : List DF := l.filter fun f => !decide (f.name = s)
theorem getF_delF (l : List DF) (s t : ByteArray) : getF (delF l s) t = if t = s then none else getF l t := by
 unfold getF delF
 induction l with
 | nil => simp
 | cons g r ih =>
   by_cases hg : g.name = s
   ·rw [List.filter_cons_of_neg (by simp [hg]), List.find?_cons, ih]
    by_cases ht : t = s
    ·simp [ht]
    ·have e : decide (g.name = t) = false := decide_eq_false (fun e => ht (e.symm.trans hg))
     rw [e]
   ·rw [List.filter_cons_of_pos (by simp [hg]), List.find?_cons, List.find?_cons, ih]
    by_cases ht : t = s
    ·subst ht
     simp [hg]
    ·simp [ht]
def DS.remove (S : DS) (s : ByteArray) : DS × Int :=
 if nameOk s then (match getF S.f s with
    | none => (S, 10)
    | some _ => if S.change.down then (S.change, 12) else ({ S.change with f := delF S.f s }, 0)) else (S, 1)
/-- no two files bear one name -/
def Uniq (l : List DF) : Prop := l.Pairwise fun f g => f.name ≠ g.name
theorem delF_none {l : List DF} {s : ByteArray} (h : getF l s = none) : delF l s = l := by
 unfold getF at h
 unfold delF
 rw [List.filter_eq_self]
 intro f hf
 have := List.find?_eq_none.1 h f hf
 simpa using this
theorem delF_len : ∀ {l : List DF} {s : ByteArray} {f : DF}, Uniq l → getF l s = some f → (delF l s).length + 1 = l.length
 | [], s, f, _, h => by simp [getF] at h
 | g :: r, s, f, hu, h => by
   obtain ⟨h1, h2⟩ := List.pairwise_cons.1 hu
   by_cases hg : g.name = s
   ·have hn : getF r s = none := by
        unfold getF
        rw [List.find?_eq_none]
        intro x hx
        have := h1 x hx
        simp only [decide_eq_true_eq]
        intro e
        exact this (hg.trans e.symm)
    have e1 : delF (g :: r) s = delF r s := by unfold delF; rw [List.filter_cons_of_neg (by simp [hg])]
    rw [e1, delF_none hn]
    rfl
   ·have e1 : delF (g :: r) s = g :: delF r s := by unfold delF; rw [List.filter_cons_of_pos (by simp [hg])]
    have e2 : getF r s = some f := by
        unfold getF at h ⊢
        rw [List.find?_cons, show decide (g.name = s) = false from decide_eq_false hg] at h
        exact h
    have := delF_len h2 e2
    rw [e1]
    simp only [List.length_cons]
    omega
theorem ownsMap_tight {w : World} {b n : Nat} {D : DataW Unit} (h : w.ownsMap Tryz.prog 9 fileR b n D) : w.ownsMap Tryz.prog 9 fileR b (Maps.size D) D := by
 obtain ⟨es, cl, hb, Ft, hs, rfl⟩ := h
 exact ⟨es, cl, hb, Ft, by simp [Maps.size, length_sorted], rfl⟩
theorem fr_map (h : w.grownBy w' (some b)) : Fr (isR b) w w' := ⟨h.os, h.tape, h.output, h.size, fun k hk hb => h.block k hk (fun e => hb (by simpa using e))⟩
variable {F : Nat → Prop} {d : Nat} {S : DS} {b : Nat} {D : DataW Unit} {s : ByteArray} {w w' : World}
/-! ### Truncate -/
def DS.trunc (S : DS) (s : ByteArray) (n : Int) : DS × Int :=
 if nameOk s then (match getF S.f s with
    | none => (S, 10)
    | some f => if n < 0 ∨ (f.b.length : Int) < n then (S, 4) else if S.change.down then (S.change, 12) else ({ S.change with f := setF S.f { f with b := f.b.take n.toNat, safe := min f.safe n.toNat } }, 0)) else (S, 1)
variable {F : Nat → Prop} {d : Nat} {S : DS} {b : Nat} {D : DataW Unit} {s : ByteArray} {w w' : World}
theorem Truncate_any {n : Int} (hs : s.size ≤ maxLen) (h : DkIn w F d S b D) (ha : S.arm ≤ 1048576) (hl : ∀ f, getF S.f s = some f → f.b.length ≤ 1073741824) :
 Calls Tryz.prog 57 #[.pointer (some ⟨d, 0, none⟩), .string s, .int .i64 n] w (RetDk F d b (S.trunc s n).1 (S.trunc s n).2 w) := by
 by_cases hok : nameOk s = true
 case neg =>
  have HN := Lib.hid (find_form (d := d) (w := w) hs rfl (Bool.eq_false_iff.2 hok))
  have hr : S.trunc s n = (S, 1) := by unfold DS.trunc; rw [if_neg hok]
  rw [hr]
  have HD := Lib.hid h
  clear h hok hr hl
  go_enter Tryz.func57, Tryz.ntmps57
  go_wp2_with (go_at_call 80; (with_reducible refine HN.out.mono ?_); rintro e w1 ⟨rfl, rfl⟩)
  all_goals
   go_ret
   exact RetDk.same HD.out
 case pos =>
 cases hg : getF S.f s with
 | none =>
   have HN := Lib.hid (find_none hs h hok hg)
   have hr : S.trunc s n = (S, 10) := by unfold DS.trunc; rw [if_pos hok, hg]
   rw [hr]
   have HD := Lib.hid h
   clear h hok hr hg hl
   go_enter Tryz.func57, Tryz.ntmps57
   go_wp2_with (go_at_call 80; (with_reducible refine HN.out.mono ?_); rintro e w1 ⟨rfl, rfl⟩)
   all_goals
    go_ret
    exact RetDk.same HD.out
 | some f =>
   obtain ⟨fb, h1, h2, h3⟩ := h.files.some s f hg
   have hlf := hl f hg
   have HN := Lib.hid (find_some hs h hok h2)
   have HC := Lib.hid (change_any d b S.arm S.down w h.cells ha)
   have HD := Lib.hid h
   have H1 := Lib.hid h1
   have H2 := Lib.hid h2
   have H3 := Lib.hid h3
   have HG := Lib.hid hg
   have hfd := file_noDisk h3 h.cells
   obtain ⟨a, cap, b1, b2, b3⟩ := h3
   obtain ⟨p0, p1, f0, f1⟩ := two_cell b1
   clear b1 b2 b3
   by_cases hn0 : n < 0
   case pos =>
    have hr : S.trunc s n = (S, 4) := by unfold DS.trunc; rw [if_pos hok, hg]; exact if_pos (Or.inl hn0)
    rw [hr]
    clear h hok hr hg h1 h2 HC hl
    go_enter Tryz.func57, Tryz.ntmps57
    go_wp2_with (go_at_call 80; (with_reducible refine HN.out.mono ?_); rintro e w1 ⟨rfl, rfl⟩)
    all_goals
        go_ret
        exact RetDk.same HD.out
   case neg =>
   obtain ⟨m, rfl⟩ : ∃ m : Nat, n = m := ⟨n.toNat, by omega⟩
   by_cases hn1 : f.b.length < m
   case pos =>
    have hr : S.trunc s m = (S, 4) := by unfold DS.trunc; rw [if_pos hok, hg]; exact if_pos (Or.inr (by omega))
    rw [hr]
    clear h hok hr hg h1 h2 HC hl
    go_enter Tryz.func57, Tryz.ntmps57
    go_wp2_with (go_at_call 80; (with_reducible refine HN.out.mono ?_); rintro e w1 ⟨rfl, rfl⟩)
    all_goals
        go_ret
        exact RetDk.same HD.out
   case neg =>
   by_cases hc : chg S.arm S.down = true
   ·have hr : S.trunc s m = (S.change, 12) := by unfold DS.trunc; rw [if_pos hok, hg]; exact (if_neg (by omega)).trans (if_pos hc)
    rw [hr]
    rw [hc, if_pos rfl] at HC
    have HE : Hid (chg S.arm S.down = true) := hc
    clear h hok hr hg h1 h2 hc hl
    go_enter Tryz.func57, Tryz.ntmps57
    go_wp2_with (first
        | (go_at_call 80; (with_reducible refine HN.out.mono ?_); rintro e w1 ⟨rfl, rfl⟩)
        | (go_at_call 81; (with_reducible refine HC.out.mono ?_); rintro e w2 ⟨rfl, hc2, hf2⟩))
    all_goals
        go_ret
        exact ⟨rfl, ⟨D, ((HD.out.setCells (by rw [← HE.out] at hc2; exact hc2) hf2).mono fun _ g => Or.inl g)⟩, hf2.mono fun k _ hk => by subst hk; exact HD.out.fd⟩
   ·have hc' : chg S.arm S.down = false := Bool.eq_false_iff.2 hc
    have hr : S.trunc s m = ({ S.change with f := setF S.f { f with b := f.b.take m, safe := min f.safe m } }, 0) := by
        unfold DS.trunc; rw [if_pos hok, hg]; exact (if_neg (by omega)).trans (if_neg hc)
    rw [hr]
    rw [hc', if_neg (by decide)] at HC
    have HE : Hid (chg S.arm S.down = false) := hc'
    have hm : m ≤ f.b.length := by omega
    clear h hok hr hg h1 h2 hc hc' hl
    go_enter Tryz.func57, Tryz.ntmps57
    go_wp2_with (first
        | (go_at_call 80; (with_reducible refine HN.out.mono ?_); rintro e w1 ⟨rfl, rfl⟩)
        | (go_at_call 81; (with_reducible refine HC.out.mono ?_); rintro e w2 ⟨rfl, hc2, hf2⟩; have hF2 := H3.out.fr hf2 (fun k hk => by subst hk; exact NoByte.disk HD.out.cells) hfd; have HF2 := Lib.hid hF2; have HC3 := Lib.hid (cut_any hlf hm hF2); clear hF2)
        | (go_at_call 97; (with_reducible refine HC3.out.mono ?_); rintro e w3 ⟨rfl, hF3, hf3⟩; have HF3 := Lib.hid hF3; obtain ⟨a3, cap3, c1, c2, c3⟩ := hF3; obtain ⟨r0, r1, y0, y1⟩ := two_cell c1; clear c1 c2 c3))
    all_goals
        go_ret
        have hD2 := HD.out.setCells (by rw [← HE.out] at hc2; exact hc2) hf2
        have hset := HF3.out.setSafe (min f.safe m)
        have hfr4 : Fr (isR fb) w2 (w3.setCell ⟨fb, 1, none⟩ (.int .i64 (min f.safe m : Nat))) := hf3.again (fr_set _)
        have hD3 := DkIn.setFile (g := f) (f := { f with b := f.b.take m, safe := min f.safe m }) hD2 HG.out H2.out (show f.name = s from getF_name HG.out) hset HF2.out hfr4
        refine ⟨rfl, ⟨D, ?_⟩, ?_⟩
        ·first
          | (have e4 : min f.safe m = m := by omega
             rw [e4] at hD3 ⊢
             exact hD3.mono fun _ g => Or.inl g)
          | (have e4 : min f.safe m = f.safe := by omega
             rw [e4] at hD3 ⊢
             exact hD3.mono fun _ g => Or.inl g)
        ·have hfr5 := (hf2.mono (T := F) fun k _ hk => by subst hk; exact HD.out.fd).again (hfr4.mono fun k _ hk => by subst hk; exact H1.out)
         first
          | (have e4 : min f.safe m = m := by omega
             rw [e4] at hfr5
             exact hfr5)
          | (have e4 : min f.safe m = f.safe := by omega
             rw [e4] at hfr5
             exact hfr5)
variable {F : Nat → Prop} {d : Nat} {S : DS} {b : Nat} {D : DataW Unit} {s : ByteArray} {w w' : World}
def nameLt (a b : ByteArray) : Bool := decide (bl a < bl b)
/-- a file ahead of the first whose name is not less -/
def insF : List DF → DF → List DF
 | [], f => [f]
 | g :: r, f => if nameLt g.name f.name then g :: insF r f else f :: g :: r
/-- files with another one, by names -/
def putF (l : List DF) (f : DF) : List DF := insF (delF l f.name) f
theorem insF_len (f : DF) : ∀ l : List DF, (insF l f).length = l.length + 1
 | [] => rfl
 | g :: r => by
   unfold insF
   split
   ·simp [insF_len f r]
   ·rfl
theorem getF_insF (f : DF) (u : ByteArray) : ∀ l : List DF, getF l f.name = none → getF (insF l f) u = if u = f.name then some f else getF l u
 | [], _ => by
   by_cases h : u = f.name
   ·subst h; simp [insF, getF]
   ·have : ¬ f.name = u := fun e => h e.symm
    simp [insF, getF, h, this]
 | g :: r, hn => by
   have hg : ¬ g.name = f.name := by
     intro e
     simp [getF, e] at hn
   have hr : getF r f.name = none := by
     unfold getF at hn ⊢
     rw [List.find?_cons, show decide (g.name = f.name) = false from decide_eq_false hg] at hn
     exact hn
   have ih := getF_insF f u r hr
   unfold insF
   split
   ·unfold getF at ih ⊢
    rw [List.find?_cons, List.find?_cons]
    by_cases hu : g.name = u
    ·have : ¬ u = f.name := fun e => hg (hu.trans e)
     simp [hu, this]
    ·simp only [decide_eq_false hu]
     exact ih
   ·unfold getF
    rw [List.find?_cons]
    by_cases hu : u = f.name
    ·subst hu; simp
    ·have : ¬ f.name = u := fun e => hu e.symm
     simp [hu, this]
theorem getF_putF (l : List DF) (f : DF) (u : ByteArray) : getF (putF l f) u = if u = f.name then some f else getF l u := by
 unfold putF
 rw [getF_insF f u _ (by rw [getF_delF]; simp)]
 by_cases h : u = f.name
 ·simp [h]
 ·rw [if_neg h, if_neg h, getF_delF, if_neg h]
theorem putF_len {l : List DF} (hu : Uniq l) (f : DF) : (putF l f).length = if (getF l f.name).isSome then l.length else l.length + 1 := by
 unfold putF
 rw [insF_len]
 cases h : getF l f.name with
 | none => rw [delF_none h]; rfl
 | some g => rw [delF_len hu h]; rfl
theorem isKey_nk (s : ByteArray) : WideAt.IsKeyLit (nk s) := by
 unfold nk; exact trivial
/-- a file put at its name -/
theorem DkIn.putFile {f : DF} {fb n : Nat} (h : DkIn w F d S b D) (hu : Uniq S.f) (hF : F fb) (hf : FileAt w fb f) (hfree : ∀ u, D.atKey (nk u) .nil = .lit (.int .i64 fb) → u = f.name)
 (hown : w'.ownsMap Tryz.prog 9 fileR b n (D.put (nk f.name) (.lit (.int .i64 fb)))) (hfr : Fr (isR b) w w') :
 DkIn w' F d { S with f := putF S.f f } b (D.put (nk f.name) (.lit (.int .i64 fb))) := by
 have hnb : ∀ k, isR b k → NoByte w k := fun k hk => by
  subst hk
  obtain ⟨es, cl, hb, _⟩ := h.own
  exact NoByte.map hb
 have hM := h.own.isMap
 have hsz : Maps.size (D.put (nk f.name) (.lit (.int .i64 fb))) = (putF S.f f).length := by
  rw [Maps.size_put (h.own.tidy nlaw), h.files.has, h.files.size, putF_len hu]
 refine ⟨h.fd, (hfr.block d (Fr.lt h.cells) (disk_noMap h.cells h.own)).trans h.cells, h.fb, ?_, ?_⟩
 ·have h1 := ownsMap_tight hown
  rw [hsz] at h1
  exact h1
 ·refine ⟨?_, ?_, ?_, ?_, hsz⟩
  ·intro t ht
   rw [getF_putF] at ht
   by_cases e : t = f.name
   ·rw [if_pos e] at ht; cases ht
   ·rw [if_neg e] at ht
    rw [Maps.atKey_put_other (fun e2 => e (nk_inj e2))]
    exact h.files.none t ht
  ·intro t f' ht
   rw [getF_putF] at ht
   by_cases e : t = f.name
   ·rw [if_pos e] at ht
    obtain rfl : f = f' := by simpa using ht
    subst e
    exact ⟨fb, hF, Maps.atKey_put_same hM (isKey_nk _) _ _, hf.fr hfr hnb (file_noMap hf h.own)⟩
   ·rw [if_neg e] at ht
    obtain ⟨fb', h1, h2, h3⟩ := h.files.some t f' ht
    exact ⟨fb', h1, by rw [Maps.atKey_put_other (fun e2 => e (nk_inj e2))]; exact h2, h3.fr hfr hnb (file_noMap h3 h.own)⟩
  ·intro t u x ht hu'
   by_cases e : t = f.name
   ·subst e
    rw [Maps.atKey_put_same hM (isKey_nk _)] at ht
    by_cases e2 : u = f.name
    ·exact e2.symm
    ·rw [Maps.atKey_put_other (fun e3 => e2 (nk_inj e3)), ← ht] at hu'
     exact absurd (hfree u hu') e2
   ·rw [Maps.atKey_put_other (fun e3 => e (nk_inj e3))] at ht
    by_cases e2 : u = f.name
    ·subst e2
     rw [Maps.atKey_put_same hM (isKey_nk _)] at hu'
     rw [← hu'] at ht
     exact hfree t ht
    ·rw [Maps.atKey_put_other (fun e3 => e2 (nk_inj e3))] at hu'
     exact h.files.apart t u x ht hu'
  ·intro t
   rw [getF_putF]
   by_cases e : t = f.name
   ·subst e; simp [Maps.has_put_same hM (isKey_nk _)]
   ·rw [if_neg e, Maps.has_put_other (fun e2 => e (nk_inj e2))]
    exact h.files.has t
end Go.Proofs.YtohcmljigcdmbaaGreat
