/- The disk: Truncate. Conditions: as in the text. -/
import Derived.Test.YtlefejokpdjpgaaGreatDiskI
set_option linter.unusedSimpArgs false
set_option linter.unusedVariables false
set_option linter.unnecessarySimpa false
set_option maxHeartbeats 16000000
set_option maxRecDepth 100000
namespace Go.Proofs.YtlefejokpdjpgaaGreat
open Go.RowKit
variable {F : Nat → Prop} {d : Nat} {S : DS} {b : Nat} {D : DataW Unit} {s : ByteArray} {w w' : World}
theorem Truncate_any {n : Int} (hs : s.size ≤ maxLen) (h : DkIn w F d S b D) (ha : S.arm ≤ 1048576) (hl : ∀ f, getF S.f s = some f → f.b.length ≤ 1073741824) :
 Calls Tryz.prog 32 #[.pointer (some ⟨d, 0, none⟩), .string s, .int .i64 n] w (RetDk F d b (S.trunc s n).1 (S.trunc s n).2 w) := by
 by_cases hok : nameOk s = true
 case neg =>
  have HN := Lib.hid (find_form (d := d) (w := w) hs rfl (Bool.eq_false_iff.2 hok))
  have hr : S.trunc s n = (S, 1) := by unfold DS.trunc; rw [if_neg hok]
  rw [hr]
  have HD := Lib.hid h
  clear h hok hr hl
  go_enter Tryz.func32, Tryz.ntmps32
  go_wp2_with (go_at_call 51; (with_reducible refine HN.out.mono ?_); rintro e w1 ⟨rfl, rfl⟩)
  all_goals
   go_ret
   exact RetDk.same HD.out
 case pos =>
 cases hg : getF S.f s with
 | none =>
   have HN := Lib.hid (find_none hs h hok hg)
   have hr : S.trunc s n = (S, 10) := by unfold DS.trunc; rw [if_pos hok, hg]
   rw [hr]
   have HD := Lib.hid h
   clear h hok hr hg hl
   go_enter Tryz.func32, Tryz.ntmps32
   go_wp2_with (go_at_call 51; (with_reducible refine HN.out.mono ?_); rintro e w1 ⟨rfl, rfl⟩)
   all_goals
    go_ret
    exact RetDk.same HD.out
 | some f =>
   obtain ⟨fb, h1, h2, h3⟩ := h.files.some s f hg
   have hlf := hl f hg
   have HN := Lib.hid (find_some hs h hok h2)
   have HC := Lib.hid (change_any d b S.arm S.down w h.cells ha)
   have HD := Lib.hid h
   have H1 := Lib.hid h1
   have H2 := Lib.hid h2
   have H3 := Lib.hid h3
   have HG := Lib.hid hg
   have hfd := file_noDisk h3 h.cells
   obtain ⟨a, cap, b1, b2, b3⟩ := h3
   obtain ⟨p0, p1, f0, f1⟩ := two_cell b1
   clear b1 b2 b3
   by_cases hn0 : n < 0
   case pos =>
    have hr : S.trunc s n = (S, 4) := by unfold DS.trunc; rw [if_pos hok, hg]; exact if_pos (Or.inl hn0)
    rw [hr]
    clear h hok hr hg h1 h2 HC hl
    go_enter Tryz.func32, Tryz.ntmps32
    go_wp2_with (go_at_call 51; (with_reducible refine HN.out.mono ?_); rintro e w1 ⟨rfl, rfl⟩)
    all_goals
        go_ret
        exact RetDk.same HD.out
   case neg =>
   obtain ⟨m, rfl⟩ : ∃ m : Nat, n = m := ⟨n.toNat, by omega⟩
   by_cases hn1 : f.b.length < m
   case pos =>
    have hr : S.trunc s m = (S, 4) := by unfold DS.trunc; rw [if_pos hok, hg]; exact if_pos (Or.inr (by omega))
    rw [hr]
    clear h hok hr hg h1 h2 HC hl
    go_enter Tryz.func32, Tryz.ntmps32
    go_wp2_with (go_at_call 51; (with_reducible refine HN.out.mono ?_); rintro e w1 ⟨rfl, rfl⟩)
    all_goals
        go_ret
        exact RetDk.same HD.out
   case neg =>
   by_cases hc : chg S.arm S.down = true
   ·have hr : S.trunc s m = (S.change, 12) := by unfold DS.trunc; rw [if_pos hok, hg]; exact (if_neg (by omega)).trans (if_pos hc)
    rw [hr]
    rw [hc, if_pos rfl] at HC
    have HE : Hid (chg S.arm S.down = true) := hc
    clear h hok hr hg h1 h2 hc hl
    go_enter Tryz.func32, Tryz.ntmps32
    go_wp2_with (first
        | (go_at_call 51; (with_reducible refine HN.out.mono ?_); rintro e w1 ⟨rfl, rfl⟩)
        | (go_at_call 52; (with_reducible refine HC.out.mono ?_); rintro e w2 ⟨rfl, hc2, hf2⟩))
    all_goals
        go_ret
        exact ⟨rfl, ⟨D, ((HD.out.setCells (by rw [← HE.out] at hc2; exact hc2) hf2).mono fun _ g => Or.inl g)⟩, hf2.mono fun k _ hk => by subst hk; exact HD.out.fd⟩
   ·have hc' : chg S.arm S.down = false := Bool.eq_false_iff.2 hc
    have hr : S.trunc s m = ({ S.change with f := setF S.f { f with b := f.b.take m, safe := min f.safe m } }, 0) := by
        unfold DS.trunc; rw [if_pos hok, hg]; exact (if_neg (by omega)).trans (if_neg hc)
    rw [hr]
    rw [hc', if_neg (by decide)] at HC
    have HE : Hid (chg S.arm S.down = false) := hc'
    have hm : m ≤ f.b.length := by omega
    clear h hok hr hg h1 h2 hc hc' hl
    go_enter Tryz.func32, Tryz.ntmps32
    go_wp2_with (first
        | (go_at_call 51; (with_reducible refine HN.out.mono ?_); rintro e w1 ⟨rfl, rfl⟩)
        | (go_at_call 52; (with_reducible refine HC.out.mono ?_); rintro e w2 ⟨rfl, hc2, hf2⟩; have hF2 := H3.out.fr hf2 (fun k hk => by subst hk; exact NoByte.disk HD.out.cells) hfd; have HF2 := Lib.hid hF2; have HC3 := Lib.hid (cut_any hlf hm hF2); clear hF2)
        | (go_at_call 29; (with_reducible refine HC3.out.mono ?_); rintro e w3 ⟨rfl, hF3, hf3⟩; have HF3 := Lib.hid hF3; obtain ⟨a3, cap3, c1, c2, c3⟩ := hF3; obtain ⟨r0, r1, y0, y1⟩ := two_cell c1; clear c1 c2 c3))
    all_goals
        go_ret
        have hD2 := HD.out.setCells (by rw [← HE.out] at hc2; exact hc2) hf2
        have hset := HF3.out.setSafe (min f.safe m)
        have hfr4 : Fr (isR fb) w2 (w3.setCell ⟨fb, 1, none⟩ (.int .i64 (min f.safe m : Nat))) := hf3.again (fr_set _)
        have hD3 := DkIn.setFile (g := f) (f := { f with b := f.b.take m, safe := min f.safe m }) hD2 HG.out H2.out (show f.name = s from getF_name HG.out) hset HF2.out hfr4
        refine ⟨rfl, ⟨D, ?_⟩, ?_⟩
        ·first
          | (have e4 : min f.safe m = m := by omega
             rw [e4] at hD3 ⊢
             exact hD3.mono fun _ g => Or.inl g)
          | (have e4 : min f.safe m = f.safe := by omega
             rw [e4] at hD3 ⊢
             exact hD3.mono fun _ g => Or.inl g)
        ·have hfr5 := (hf2.mono (T := F) fun k _ hk => by subst hk; exact HD.out.fd).again (hfr4.mono fun k _ hk => by subst hk; exact H1.out)
         first
          | (have e4 : min f.safe m = m := by omega
             rw [e4] at hfr5
             exact hfr5)
          | (have e4 : min f.safe m = f.safe := by omega
             rw [e4] at hfr5
             exact hfr5)
variable {F : Nat → Prop} {d : Nat} {S : DS} {b : Nat} {D : DataW Unit} {s : ByteArray} {w w' : World}
def nameLt (a b : ByteArray) : Bool := decide (bl a < bl b)
/-- a file ahead of the first whose name is not less -/
def insF : List DF → DF → List DF
 | [], f => [f]
 | g :: r, f => if nameLt g.name f.name then g :: insF r f else f :: g :: r
/-- files with another one, by names -/
def putF (l : List DF) (f : DF) : List DF := insF (delF l f.name) f
theorem insF_len (f : DF) : ∀ l : List DF, (insF l f).length = l.length + 1
 | [] => rfl
 | g :: r => by
   unfold insF
   split
   ·simp [insF_len f r]
   ·rfl
theorem getF_insF (f : DF) (u : ByteArray) : ∀ l : List DF, getF l f.name = none → getF (insF l f) u = if u = f.name then some f else getF l u
 | [], _ => by
   by_cases h : u = f.name
   ·subst h; simp [insF, getF]
   ·have : ¬ f.name = u := fun e => h e.symm
    simp [insF, getF, h, this]
 | g :: r, hn => by
   have hg : ¬ g.name = f.name := by
     intro e
     simp [getF, e] at hn
   have hr : getF r f.name = none := by
     unfold getF at hn ⊢
     rw [List.find?_cons, show decide (g.name = f.name) = false from decide_eq_false hg] at hn
     exact hn
   have ih := getF_insF f u r hr
   unfold insF
   split
   ·unfold getF at ih ⊢
    rw [List.find?_cons, List.find?_cons]
    by_cases hu : g.name = u
    ·have : ¬ u = f.name := fun e => hg (hu.trans e)
     simp [hu, this]
    ·simp only [decide_eq_false hu]
     exact ih
   ·unfold getF
    rw [List.find?_cons]
    by_cases hu : u = f.name
    ·subst hu; simp
    ·have : ¬ f.name = u := fun e => hu e.symm
     simp [hu, this]
theorem getF_putF (l : List DF) (f : DF) (u : ByteArray) : getF (putF l f) u = if u = f.name then some f else getF l u := by
 unfold putF
 rw [getF_insF f u _ (by rw [getF_delF]; simp)]
 by_cases h : u = f.name
 ·simp [h]
 ·rw [if_neg h, if_neg h, getF_delF, if_neg h]
theorem putF_len {l : List DF} (hu : Uniq l) (f : DF) : (putF l f).length = if (getF l f.name).isSome then l.length else l.length + 1 := by
 unfold putF
 rw [insF_len]
 cases h : getF l f.name with
 | none => rw [delF_none h]; rfl
 | some g => rw [delF_len hu h]; rfl
theorem isKey_nk (s : ByteArray) : WideAt.IsKeyLit (nk s) := by
 unfold nk; exact trivial
/-- a file put at its name -/
theorem DkIn.putFile {f : DF} {fb n : Nat} (h : DkIn w F d S b D) (hu : Uniq S.f) (hF : F fb) (hf : FileAt w fb f) (hfree : ∀ u, D.atKey (nk u) .nil = .lit (.int .i64 fb) → u = f.name)
 (hown : w'.ownsMap Tryz.prog 9 fileR b n (D.put (nk f.name) (.lit (.int .i64 fb)))) (hfr : Fr (isR b) w w') :
 DkIn w' F d { S with f := putF S.f f } b (D.put (nk f.name) (.lit (.int .i64 fb))) := by
 have hnb : ∀ k, isR b k → NoByte w k := fun k hk => by
  subst hk
  obtain ⟨es, cl, hb, _⟩ := h.own
  exact NoByte.map hb
 have hM := h.own.isMap
 have hsz : Maps.size (D.put (nk f.name) (.lit (.int .i64 fb))) = (putF S.f f).length := by
  rw [Maps.size_put (h.own.tidy nlaw), h.files.has, h.files.size, putF_len hu]
 refine ⟨h.fd, (hfr.block d (Fr.lt h.cells) (disk_noMap h.cells h.own)).trans h.cells, h.fb, ?_, ?_⟩
 ·have h1 := ownsMap_tight hown
  rw [hsz] at h1
  exact h1
 ·refine ⟨?_, ?_, ?_, ?_, hsz⟩
  ·intro t ht
   rw [getF_putF] at ht
   by_cases e : t = f.name
   ·rw [if_pos e] at ht; cases ht
   ·rw [if_neg e] at ht
    rw [Maps.atKey_put_other (fun e2 => e (nk_inj e2))]
    exact h.files.none t ht
  ·intro t f' ht
   rw [getF_putF] at ht
   by_cases e : t = f.name
   ·rw [if_pos e] at ht
    obtain rfl : f = f' := by simpa using ht
    subst e
    exact ⟨fb, hF, Maps.atKey_put_same hM (isKey_nk _) _ _, hf.fr hfr hnb (file_noMap hf h.own)⟩
   ·rw [if_neg e] at ht
    obtain ⟨fb', h1, h2, h3⟩ := h.files.some t f' ht
    exact ⟨fb', h1, by rw [Maps.atKey_put_other (fun e2 => e (nk_inj e2))]; exact h2, h3.fr hfr hnb (file_noMap h3 h.own)⟩
  ·intro t u x ht hu'
   by_cases e : t = f.name
   ·subst e
    rw [Maps.atKey_put_same hM (isKey_nk _)] at ht
    by_cases e2 : u = f.name
    ·exact e2.symm
    ·rw [Maps.atKey_put_other (fun e3 => e2 (nk_inj e3)), ← ht] at hu'
     exact absurd (hfree u hu') e2
   ·rw [Maps.atKey_put_other (fun e3 => e (nk_inj e3))] at ht
    by_cases e2 : u = f.name
    ·subst e2
     rw [Maps.atKey_put_same hM (isKey_nk _)] at hu'
     rw [← hu'] at ht
     exact hfree t ht
    ·rw [Maps.atKey_put_other (fun e3 => e2 (nk_inj e3))] at hu'
     exact h.files.apart t u x ht hu'
  ·intro t
   rw [getF_putF]
   by_cases e : t = f.name
   ·subst e; simp [Maps.has_put_same hM (isKey_nk _)]
   ·rw [if_neg e, Maps.has_put_other (fun e2 => e (nk_inj e2))]
    exact h.files.has t
variable {F : Nat → Prop} {d : Nat} {S : DS} {b : Nat} {D : DataW Unit} {s : ByteArray} {w w' : World}
theorem putF_setF (l : List DF) (f : DF) : putF (setF l f) f = putF l f := by
 unfold putF
 congr 1
 unfold delF setF
 induction l with
 | nil => rfl
 | cons g r ih =>
   rw [List.map_cons]
   by_cases hg : g.name = f.name
   ·rw [if_pos hg, List.filter_cons_of_neg (by simp), List.filter_cons_of_neg (by simp [hg])]
    exact ih
   ·rw [if_neg hg, List.filter_cons_of_pos (by simp [hg]), List.filter_cons_of_pos (by simp [hg]), ih]
theorem setF_uniq {l : List DF} (h : Uniq l) (f : DF) : Uniq (setF l f) := by
 unfold Uniq setF at *
 rw [List.pairwise_map]
 refine h.imp ?_
 intro x y hxy
 by_cases h1 : x.name = f.name <;> by_cases h2 : y.name = f.name <;> simp [h1, h2]
 ·exact hxy (h1.trans h2.symm)
 ·exact fun e => h2 e.symm
 ·exact hxy
def DS.append (S : DS) (s : ByteArray) (l : Bytes) : DS × Int :=
 if nameOk s then (match getF S.f s with
    | none => if 8 ≤ S.f.length then (S, 9) else if 16777216 < l.length then (S, 9) else if S.change.down then (S.change, 12) else ({ S.change with f := putF S.f ⟨s, l, 0⟩ }, 0)
    | some f => if 16777216 < f.b.length + l.length then (S, 9) else if S.change.down then (S.change, 12) else ({ S.change with f := putF S.f { f with b := f.b ++ l } }, 0)) else (S, 1)
theorem Append_nil (s : ByteArray) (v : Value) (w : World) : Calls Tryz.prog 23 #[.pointer none, .string s, v] w fun e w' => e = .returned (.int .i64 17) ∧ w = w' := by
 have HN := Lib.hid (find_nil s w)
 go_enter Tryz.func23, Tryz.ntmps23
 go_wp2_with (go_at_call 51; (with_reducible refine HN.out.mono ?_); rintro e w1 ⟨rfl, rfl⟩)
 all_goals
  go_ret
  exact ⟨rfl, rfl⟩
theorem Append_form {v : Value} (hs : s.size ≤ maxLen) (h : DkIn w F d S b D) (hok : nameOk s = false) :
 Calls Tryz.prog 23 #[.pointer (some ⟨d, 0, none⟩), .string s, v] w (RetDk F d b S 1 w) := by
 have HN := Lib.hid (find_form (d := d) (w := w) hs rfl hok)
 have HD := Lib.hid h
 clear h hok
 go_enter Tryz.func23, Tryz.ntmps23
 go_wp2_with (go_at_call 51; (with_reducible refine HN.out.mono ?_); rintro e w1 ⟨rfl, rfl⟩)
 all_goals
  go_ret
  exact RetDk.same HD.out
theorem Append_some {f : DF} {a2 : Option Addr} {l : Bytes} {cap2 : Nat} (hs : s.size ≤ maxLen) (h : DkIn w F d S b D) (hu : Uniq S.f) (ha : S.arm ≤ 1048576) (h8 : S.f.length ≤ 8) (hok : nameOk s = true) (hg : getF S.f s = some f)
 (hlf : f.b.length ≤ 16777216) (hin : BytesIn w a2 l) :
 Calls Tryz.prog 23 #[.pointer (some ⟨d, 0, none⟩), .string s, .slice a2 l.length cap2] w (RetDk F d b (S.append s l).1 (S.append s l).2 w) := by
 obtain ⟨fb, h1, h2, h3⟩ := h.files.some s f hg
 have HN := Lib.hid (find_some hs h hok h2)
 have HC := Lib.hid (change_any d b S.arm S.down w h.cells ha)
 have HD := Lib.hid h
 have H1 := Lib.hid h1
 have H2 := Lib.hid h2
 have H3 := Lib.hid h3
 have HG := Lib.hid hg
 have HU := Lib.hid hu
 have hfd := file_noDisk h3 h.cells
 obtain ⟨a, cap, b1, b2, b3⟩ := h3
 obtain ⟨p0, p1, f0, f1⟩ := two_cell b1
 clear b1 b2 b3
 by_cases hlen : 16777216 < f.b.length + l.length
 case pos =>
  have hr : S.append s l = (S, 9) := by unfold DS.append; rw [if_pos hok, hg]; exact if_pos hlen
  rw [hr]
  clear h hok hr hg h1 h2 HC hu
  go_enter Tryz.func23, Tryz.ntmps23
  go_wp2_with (go_at_call 51; (with_reducible refine HN.out.mono ?_); rintro e w1 ⟨rfl, rfl⟩)
  all_goals
   go_ret
   exact RetDk.same HD.out
 case neg =>
 by_cases hc : chg S.arm S.down = true
 ·have hr : S.append s l = (S.change, 12) := by unfold DS.append; rw [if_pos hok, hg]; exact (if_neg hlen).trans (if_pos hc)
  rw [hr]
  rw [hc, if_pos rfl] at HC
  have HE : Hid (chg S.arm S.down = true) := hc
  clear h hok hr hg h1 h2 hc hu
  go_enter Tryz.func23, Tryz.ntmps23
  go_wp2_with (first
   | (go_at_call 51; (with_reducible refine HN.out.mono ?_); rintro e w1 ⟨rfl, rfl⟩)
   | (go_at_call 52; (with_reducible refine HC.out.mono ?_); rintro e w2 ⟨rfl, hc2, hf2⟩))
  all_goals
   go_ret
   exact ⟨rfl, ⟨D, ((HD.out.setCells (by rw [← HE.out] at hc2; exact hc2) hf2).mono fun _ g => Or.inl g)⟩, hf2.mono fun k _ hk => by subst hk; exact HD.out.fd⟩
 ·have hc' : chg S.arm S.down = false := Bool.eq_false_iff.2 hc
  have hr : S.append s l = ({ S.change with f := putF S.f { f with b := f.b ++ l } }, 0) := by
   unfold DS.append; rw [if_pos hok, hg]; exact (if_neg hlen).trans (if_neg hc)
  rw [hr]
  rw [hc', if_neg (by decide)] at HC
  have HE : Hid (chg S.arm S.down = false) := hc'
  have hname : f.name = s := getF_name hg
  have HM := Lib.hid hname
  have HI := Lib.hid hin
  clear h hok hr hg h1 h2 hc hc' hu hin hname
  go_enter Tryz.func23, Tryz.ntmps23
  go_wp2_with (first
   | (go_at_call 51; (with_reducible refine HN.out.mono ?_); rintro e w1 ⟨rfl, rfl⟩)
   | (go_at_call 52; (with_reducible refine HC.out.mono ?_); rintro e w2 ⟨rfl, hc2, hf2⟩; have hF2 := H3.out.fr hf2 (fun k hk => by subst hk; exact NoByte.disk HD.out.cells) hfd; have HF2 := Lib.hid hF2; have HC3 := Lib.hid (add_any (cap2 := cap2) (by omega) hF2 (HI.out.fr hf2 (fun k hk => by subst hk; exact NoByte.disk HD.out.cells))); have HD2 := Lib.hid (HD.out.setCells (by rw [← HE.out] at hc2; exact hc2) hf2); clear hF2 hc2)
   | (go_at_call 53; (with_reducible refine HC3.out.mono ?_); rintro e w3 ⟨rfl, hF3, hf3⟩; have HD3 := Lib.hid (DkIn.setFile (g := f) (f := { f with b := f.b ++ l }) HD2.out HG.out H2.out (show f.name = s from HM.out) hF3 HF2.out hf3); have hown3 := HD3.out.own; obtain ⟨q0, q1, q2, g0, g1, g2⟩ := three_cell HD3.out.cells; have HF3 := Lib.hid hF3; clear hF3)
   | (at_mapUpdate; refine wpList_mapUpdate_own _ rfl _ _ _ 71 rfl 9 83 nlaw Tryz.underlying71 fileR b _ D rfl hown3 (by unfold maxLen; simp [setF]; omega) _ _ (nk s) rfl rfl (nk_key hs) (.lit (.int .i64 fb)) [] rfl ?_; intro w4 hown4 hgrow4))
  all_goals
   go_ret
   have hput := DkIn.putFile (f := { f with b := f.b ++ l }) (fb := fb) HD3.out (setF_uniq HU.out _) H1.out HF3.out (fun u hu2 => (HD.out.files.apart u s fb hu2 H2.out).trans (show s = f.name from HM.out.symm)) (n := _) (by rw [show ({ f with b := f.b ++ l } : DF).name = s from HM.out]; exact hown4) (fr_map hgrow4)
   rw [putF_setF] at hput
   exact ⟨rfl, ⟨_, hput.mono fun _ g => Or.inl g⟩, ((hf2.mono (T := F) fun k _ hk => by subst hk; exact HD.out.fd).again (hf3.mono fun k _ hk => by subst hk; exact H1.out)).again ((fr_map hgrow4).mono fun k _ hk => by subst hk; exact HD.out.fb)⟩
end Go.Proofs.YtlefejokpdjpgaaGreat
