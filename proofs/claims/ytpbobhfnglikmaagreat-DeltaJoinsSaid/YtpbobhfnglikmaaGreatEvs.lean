/- Slices of events: how they lie in memory; are they the same, do they rise. Conditions: at most 2^30 events, texts of at most 2^30 bytes. -/
import Derived.Test.YtpbobhfnglikmaaGreatLoad
import Derived.Test.YtpbobhfnglikmaaGreatMem
set_option linter.unusedSimpArgs false
set_option linter.unusedVariables false
set_option linter.unnecessarySimpa false
set_option maxHeartbeats 16000000
set_option maxRecDepth 100000
namespace Go.Proofs.YtpbobhfnglikmaaGreat
open Go.RowKit
abbrev EvIt := Ev × Option Addr × Nat
abbrev itEv (x : EvIt) : List Value := evCells x.1 x.2.1 x.2.2
structure EvsIn (w : World) (a : Option Addr) (ls : List EvIt) : Prop where
 rows : ls = [] ∨ ∃ A off, a = some ⟨A, off, none⟩ ∧ ∀ i (h : i < ls.length), w.rangeAt A (off + i * 19) (itEv ls[i])
 dots : ∀ x ∈ ls, DotsIn w x.2.1 x.1.over
theorem EvsIn.kept {w w' : World} {a : Option Addr} {ls : List EvIt} (h : EvsIn w a ls) (hb : Below w.heap.size w w') : EvsIn w' a ls :=
 ⟨h.rows.imp id fun ⟨A, off, h1, h2⟩ => ⟨A, off, h1, fun i hi => rangeAt_kept (h2 i hi) hb⟩, fun x hx => (h.dots x hx).kept hb⟩
theorem EvsIn.at {w : World} {a : Option Addr} {ls : List EvIt} (h : EvsIn w a ls) {k : Nat} (hk : k < ls.length) :
 ∃ A off, a = some ⟨A, off, none⟩ ∧ (∀ i (h : i < ls.length), w.rangeAt A (off + i * 19) (itEv ls[i])) ∧ DotsIn w ls[k].2.1 ls[k].1.over := by
 rcases h.rows with h1 | ⟨A, off, h1, h2⟩
 ·subst h1; simp at hk
 ·exact ⟨A, off, h1, h2, h.dots _ (List.getElem_mem hk)⟩
/-- the events alone -/
def evsOf (ls : List EvIt) : List Ev := ls.map (·.1)
theorem evsOf_length (ls : List EvIt) : (evsOf ls).length = ls.length := by simp [evsOf]
theorem evsOf_at {ls : List EvIt} {k : Nat} (h : k < ls.length) : (evsOf ls)[k]'(by rw [evsOf_length]; exact h) = ls[k].1 := by simp [evsOf]
def EvsSmall (ls : List EvIt) : Prop := ∀ x ∈ ls, EvSmall x.1
/-! ### are they the same -/
theorem rSameEvs_any (a b : Option Addr) (ca cb : Nat) (l m : List EvIt) (w : World) (hl : l.length ≤ 1073741824) (hm : m.length ≤ 1073741824) (hsl : EvsSmall l) (hsm : EvsSmall m) (ha : EvsIn w a l) (hb : EvsIn w b m) :
 Calls Tryz.prog 33 #[.slice a l.length ca, .slice b m.length cb] w fun x w' => x = .returned (.bool (decide (evsOf l = evsOf m))) ∧ Below w.heap.size w w' := by
 by_cases hlen : l.length = m.length
 ·have hb1 : ((l.length : Nat) != (m.length : Nat)) = false := by rw [bne_eq_false_iff_eq]; exact hlen
  have hb2 : ((l.length : Int) != (m.length : Int)) = false := by rw [bne_eq_false_iff_eq]; omega
  have hl1 : l.length ≤ m.length := by omega
  have hl2 : m.length ≤ l.length := by omega
  clear hlen
  go_enter Tryz.func33, Tryz.ntmps33
  go_wp2
  go_loopw [5] (fun i wr => ∃ k : Nat, k ≤ l.length ∧ i = .int .i64 k ∧ (evsOf l).take k = (evsOf m).take k ∧ Below w.heap.size w wr) (fun i _ => l.length - (intOf i).toNat)
  case atStart => exact ⟨0, Nat.zero_le _, rfl, rfl, by go_grown⟩
  case round =>
   obtain ⟨k, hk, rfl, hpre, hbw⟩ := hrel
   have HP := Lib.hid hpre
   clear hpre
   have hzw := hbw.size
   by_cases hlt : k < l.length
   ·have hlm : k < m.length := by omega
    obtain ⟨A, off, rfl, hra, hda⟩ := (ha.kept hbw).at hlt
    obtain ⟨B, ofb, rfl, hrb, hdb⟩ := (hb.kept hbw).at hlm
    have r1 := hra k hlt
    have r2 := hrb k hlm
    have s1 := (hsl _ (List.getElem_mem hlt)).over
    have s2 := (hsm _ (List.getElem_mem hlm)).over
    have g1 := @evsOf_at l k hlt
    have g2 := @evsOf_at m k hlm
    have HN := fun he : l[k].1 = m[k].1 => take_next (k := k) (by rw [evsOf_length]; exact hlt) (by rw [evsOf_length]; exact hlm) HP.out (by rw [g1, g2]; exact he)
    have HD := fun he : ¬ l[k].1 = m[k].1 => decide_eq_false (take_ne (k := k) (l := evsOf l) (m := evsOf m) (by rw [evsOf_length]; exact hlt) (by rw [evsOf_length]; exact hlm) (by rw [g1, g2]; exact he))
    clear hra hrb g1 g2 HP
    generalize l[k] = x at *
    generalize m[k] = y at *
    obtain ⟨e, ax, cx⟩ := x
    obtain ⟨f, ay, cy⟩ := y
    simp only [itEv] at *
    have hS0 := fun (W : World) (h1 : DotsIn W ax e.over) (h2 : DotsIn W ay f.over) => rSameEv_any e f ax ay cx cy W s1 s2 h1 h2
    by_cases he : e = f
    ·have HE := Lib.hid (HN he)
     rw [decide_eq_true he] at hS0
     have HS := Lib.hid hS0
     clear hS0 he HN HD
     go_upto_region 6 with fail
     refine wp_region_after (by kernel_rfl) (by kernel_rfl) (fun W2 hW2 => ?_)
     have R1 : W2.rangeAt A (off + k * 19) (evCells e ax cx) := by rw [hW2.out]; exact r1
     have R2 : W2.rangeAt B (ofb + k * 19) (evCells f ay cy) := by rw [hW2.out]; exact r2
     have D1 : ∀ i : After W2, DotsIn i.w ax e.over := fun i => (show DotsIn W2 ax e.over by rw [hW2.out]; exact hda).kept i.h
     have D2 : ∀ i : After W2, DotsIn i.w ay f.over := fun i => (show DotsIn W2 ay f.over by rw [hW2.out]; exact hdb).kept i.h
     iterate 3 go_big_quiet_step (fail)
     ((with_reducible refine wpQuiet_load_evo _ A (off + k * 19) e ax cx R1 ?_ rfl ?_); exact rfl; go_simp)
     iterate 3 go_big_quiet_step (fail)
     ((with_reducible refine wpQuiet_load_evo _ B (ofb + k * 19) f ay cy R2 ?_ rfl ?_); exact rfl; go_simp)
     go_big_quiet_step (exact Calls.after (HS.out _ (D1 _) (D2 _)))
     go_big_quiet_step (fail)
     refine wpQuiet_nil ?_
     first | (intro _ hi; obtain ⟨i, rfl⟩ := hi) | intro i
     have hib := i.h
     clear D1 D2 R1 R2
     generalize i.w = wi at hib ⊢
     rw [hW2.out] at hib
     go_wp2
     go_roundw
     case rel => exact ⟨k + 1, by omega, by go_num, HE.out, hbw.trans (hib.mono hzw)⟩
     case measure => simp [intOf] <;> omega
    ·have HE := Lib.hid (HD he)
     rw [decide_eq_false he] at hS0
     have HS := Lib.hid hS0
     clear hS0 he HN HD
     go_upto_region 6 with fail
     refine wp_region_after (by kernel_rfl) (by kernel_rfl) (fun W2 hW2 => ?_)
     have R1 : W2.rangeAt A (off + k * 19) (evCells e ax cx) := by rw [hW2.out]; exact r1
     have R2 : W2.rangeAt B (ofb + k * 19) (evCells f ay cy) := by rw [hW2.out]; exact r2
     have D1 : ∀ i : After W2, DotsIn i.w ax e.over := fun i => (show DotsIn W2 ax e.over by rw [hW2.out]; exact hda).kept i.h
     have D2 : ∀ i : After W2, DotsIn i.w ay f.over := fun i => (show DotsIn W2 ay f.over by rw [hW2.out]; exact hdb).kept i.h
     iterate 3 go_big_quiet_step (fail)
     ((with_reducible refine wpQuiet_load_evo _ A (off + k * 19) e ax cx R1 ?_ rfl ?_); exact rfl; go_simp)
     iterate 3 go_big_quiet_step (fail)
     ((with_reducible refine wpQuiet_load_evo _ B (ofb + k * 19) f ay cy R2 ?_ rfl ?_); exact rfl; go_simp)
     go_big_quiet_step (exact Calls.after (HS.out _ (D1 _) (D2 _)))
     go_big_quiet_step (fail)
     refine wpQuiet_nil ?_
     first | (intro _ hi; obtain ⟨i, rfl⟩ := hi) | intro i
     have hib := i.h
     clear D1 D2 R1 R2
     generalize i.w = wi at hib ⊢
     rw [hW2.out] at hib
     go_wp2
     go_ret
     exact ⟨ret_bool HE.out.symm, hbw.trans (hib.mono hzw)⟩
   ·have hlm : ¬ k < m.length := by omega
    have HE : Hid (decide (evsOf l = evsOf m) = true) := decide_eq_true (take_all (k := k) (by rw [evsOf_length]; exact hlt) (by rw [evsOf_length]; exact hlm) HP.out)
    go_wp2
    go_ret
    exact ⟨ret_bool HE.out.symm, hbw⟩
 ·have HE : Hid (decide (evsOf l = evsOf m) = false) := decide_eq_false (len_ne (by rw [evsOf_length, evsOf_length]; exact hlen))
  have hb1 : ((l.length : Nat) != (m.length : Nat)) = true := by rw [bne_iff_ne]; exact hlen
  have hb2 : ((l.length : Int) != (m.length : Int)) = true := by rw [bne_iff_ne]; omega
  clear hlen
  go_enter Tryz.func33, Tryz.ntmps33
  go_wp2
  go_ret
  exact ⟨ret_bool HE.out.symm, by go_grown⟩
/-- few and short -/
def lightAll (n : Nat) (ls : List Ev) : Bool := decide (ls.length ≤ n) && ls.all light
theorem LightAll_any (a : Option Addr) (cap n : Nat) (l : List EvIt) (w : World) (hn : n ≤ 1073741824) (hl : l.length ≤ maxLen) (h : EvsIn w a l)
 (hs : ∀ x ∈ l, x.1.over.length ≤ maxLen ∧ x.1.key.name.size ≤ maxLen ∧ x.1.key.domain.size ≤ maxLen ∧ x.1.key.path.size ≤ maxLen ∧ x.1.ck.value.size ≤ maxLen) :
 Calls Tryz.prog 26 #[.slice a l.length cap, .int .i64 n] w fun x w' => x = .returned (.bool (lightAll n (evsOf l))) ∧ Below w.heap.size w w' := by
 unfold maxLen at hl
 by_cases hle : l.length ≤ n
 ·have hdn : decide (n < l.length) = false := decide_eq_false (by omega)
  have hdi : decide ((n : Int) < (l.length : Int)) = false := decide_eq_false (by omega)
  have HV : Hid (lightAll n (evsOf l) = (evsOf l).all light) := by unfold Hid lightAll; rw [evsOf_length, decide_eq_true hle]; rfl
  go_enter Tryz.func26, Tryz.ntmps26
  go_wp2
  go_loopw [5] (fun i wr => ∃ k : Nat, k ≤ l.length ∧ i = .int .i64 k ∧ lightAll n (evsOf l) = ((evsOf l).drop k).all light ∧ Below w.heap.size w wr) (fun i _ => l.length - (intOf i).toNat)
  case atStart => exact ⟨0, Nat.zero_le _, rfl, HV.out, Below.refl _ _⟩
  case round =>
   obtain ⟨k, hk, rfl, hpre, hbw⟩ := hrel
   have HP := Lib.hid hpre
   clear hpre HV
   have hzw := hbw.size
   by_cases hlt : k < l.length
   ·obtain ⟨A, off, rfl, hra, hda⟩ := (h.kept hbw).at hlt
    have r1 := hra k hlt
    have g1 := @evsOf_at l k hlt
    have hd : (evsOf l).drop k = l[k].1 :: (evsOf l).drop (k + 1) := by rw [List.drop_eq_getElem_cons (by rw [evsOf_length]; exact hlt), g1]
    obtain ⟨m1, m2, m3, m4, m5⟩ := hs _ (List.getElem_mem hlt)
    have HT : Hid (lightAll n (evsOf l) = (light l[k].1 && ((evsOf l).drop (k + 1)).all light)) := by rw [Hid, HP.out, hd, List.all_cons]
    clear hra g1 hd HP hda
    generalize l[k] = x at *
    obtain ⟨e, ax, cx⟩ := x
    simp only [itEv] at *
    have hL0 := fun (W : World) => Light_any e ax cx W m1 m2 m3 m4 m5
    cases hli : light e with
    | true =>
      have HE : Hid (lightAll n (evsOf l) = ((evsOf l).drop (k + 1)).all light) := by rw [Hid, HT.out, hli]; rfl
      rw [hli] at hL0
      have HL := Lib.hid hL0
      clear hL0 HT hli m1 m2 m3 m4 m5
      go_wp2_with (first
       | ((with_reducible refine wpList_load_evo _ A (off + k * 19) e ax cx r1 ?_ rfl ?_); exact rfl)
       | (go_at_call 41; (with_reducible refine (HL.out _).mono ?_); rintro v w1 ⟨rfl, hb⟩))
      go_roundw
      case rel => exact ⟨k + 1, by omega, by go_num, HE.out, hbw.trans (hb.mono hzw)⟩
      case measure => simp [intOf] <;> omega
    | false =>
      have HE : Hid (lightAll n (evsOf l) = false) := by rw [Hid, HT.out, hli]; rfl
      rw [hli] at hL0
      have HL := Lib.hid hL0
      clear hL0 HT hli m1 m2 m3 m4 m5
      go_wp2_with (first
       | ((with_reducible refine wpList_load_evo _ A (off + k * 19) e ax cx r1 ?_ rfl ?_); exact rfl)
       | (go_at_call 41; (with_reducible refine (HL.out _).mono ?_); rintro v w1 ⟨rfl, hb⟩))
      go_ret
      exact ⟨ret_bool HE.out.symm, hbw.trans (hb.mono hzw)⟩
   ·have HE : Hid (lightAll n (evsOf l) = true) := by rw [Hid, HP.out, List.drop_eq_nil_of_le (by rw [evsOf_length]; omega)]; rfl
    go_wp2
    go_ret
    exact ⟨ret_bool HE.out.symm, hbw⟩
 ·have hdn : decide (n < l.length) = true := decide_eq_true (by omega)
  have hdi : decide ((n : Int) < (l.length : Int)) = true := decide_eq_true (by omega)
  have HE : Hid (lightAll n (evsOf l) = false) := by unfold Hid lightAll; rw [evsOf_length, decide_eq_false hle]; rfl
  go_enter Tryz.func26, Tryz.ntmps26
  go_wp2
  go_ret
  exact ⟨ret_bool HE.out.symm, by go_grown⟩
end Go.Proofs.YtpbobhfnglikmaaGreat
