/- Slices of events: how they lie in memory; are they the same, do they rise. Conditions: at most 2^30 events, texts of at most 2^30 bytes. -/
import Derived.Test.YtpbobhfnglikmaaGreatLoad
import Derived.Test.YtpbobhfnglikmaaGreatMem
set_option linter.unusedSimpArgs false
set_option linter.unusedVariables false
set_option linter.unnecessarySimpa false
set_option maxHeartbeats 16000000
set_option maxRecDepth 100000
namespace Go.Proofs.YtpbobhfnglikmaaGreat
open Go.RowKit
abbrev EvIt := Ev × Option Addr × Nat
abbrev itEv (x : EvIt) : List Value := evCells x.1 x.2.1 x.2.2
structure EvsIn (w : World) (a : Option Addr) (ls : List EvIt) : Prop where
 rows : ls = [] ∨ ∃ A off, a = some ⟨A, off, none⟩ ∧ ∀ i (h : i < ls.length), w.rangeAt A (off + i * 19) (itEv ls[i])
 dots : ∀ x ∈ ls, DotsIn w x.2.1 x.1.over
theorem EvsIn.kept {w w' : World} {a : Option Addr} {ls : List EvIt} (h : EvsIn w a ls) (hb : Below w.heap.size w w') : EvsIn w' a ls :=
 ⟨h.rows.imp id fun ⟨A, off, h1, h2⟩ => ⟨A, off, h1, fun i hi => rangeAt_kept (h2 i hi) hb⟩, fun x hx => (h.dots x hx).kept hb⟩
theorem EvsIn.at {w : World} {a : Option Addr} {ls : List EvIt} (h : EvsIn w a ls) {k : Nat} (hk : k < ls.length) :
 ∃ A off, a = some ⟨A, off, none⟩ ∧ (∀ i (h : i < ls.length), w.rangeAt A (off + i * 19) (itEv ls[i])) ∧ DotsIn w ls[k].2.1 ls[k].1.over := by
 rcases h.rows with h1 | ⟨A, off, h1, h2⟩
 ·subst h1; simp at hk
 ·exact ⟨A, off, h1, h2, h.dots _ (List.getElem_mem hk)⟩
/-- the events alone -/
def evsOf (ls : List EvIt) : List Ev := ls.map (·.1)
theorem evsOf_length (ls : List EvIt) : (evsOf ls).length = ls.length := by simp [evsOf]
theorem evsOf_at {ls : List EvIt} {k : Nat} (h : k < ls.length) : (evsOf ls)[k]'(by rw [evsOf_length]; exact h) = ls[k].1 := by simp [evsOf]
def EvsSmall (ls : List EvIt) : Prop := ∀ x ∈ ls, EvSmall x.1
/-! ### are they the same -/
/-- few and short -/
def lightAll (n : Nat) (ls : List Ev) : Bool := decide (ls.length ≤ n) && ls.all light
theorem LightAll_any (a : Option Addr) (cap n : Nat) (l : List EvIt) (w : World) (hn : n ≤ 1073741824) (hl : l.length ≤ maxLen) (h : EvsIn w a l)
 (hs : ∀ x ∈ l, x.1.over.length ≤ maxLen ∧ x.1.key.name.size ≤ maxLen ∧ x.1.key.domain.size ≤ maxLen ∧ x.1.key.path.size ≤ maxLen ∧ x.1.ck.value.size ≤ maxLen) :
 Calls Tryz.prog 26 #[.slice a l.length cap, .int .i64 n] w fun x w' => x = .returned (.bool (lightAll n (evsOf l))) ∧ Below w.heap.size w w' := by
 unfold maxLen at hl
 by_cases hle : l.length ≤ n
 ·have hdn : decide (n < l.length) = false := decide_eq_false (by omega)
  have hdi : decide ((n : Int) < (l.length : Int)) = false := decide_eq_false (by omega)
  have HV : Hid (lightAll n (evsOf l) = (evsOf l).all light) := by unfold Hid lightAll; rw [evsOf_length, decide_eq_true hle]; rfl
  go_enter Tryz.func26, Tryz.ntmps26
  go_wp2
  go_loopw [5] (fun i wr => ∃ k : Nat, k ≤ l.length ∧ i = .int .i64 k ∧ lightAll n (evsOf l) = ((evsOf l).drop k).all light ∧ Below w.heap.size w wr) (fun i _ => l.length - (intOf i).toNat)
  case atStart => exact ⟨0, Nat.zero_le _, rfl, HV.out, Below.refl _ _⟩
  case round =>
   obtain ⟨k, hk, rfl, hpre, hbw⟩ := hrel
   have HP := Lib.hid hpre
   clear hpre HV
   have hzw := hbw.size
   by_cases hlt : k < l.length
   ·obtain ⟨A, off, rfl, hra, hda⟩ := (h.kept hbw).at hlt
    have r1 := hra k hlt
    have g1 := @evsOf_at l k hlt
    have hd : (evsOf l).drop k = l[k].1 :: (evsOf l).drop (k + 1) := by rw [List.drop_eq_getElem_cons (by rw [evsOf_length]; exact hlt), g1]
    obtain ⟨m1, m2, m3, m4, m5⟩ := hs _ (List.getElem_mem hlt)
    have HT : Hid (lightAll n (evsOf l) = (light l[k].1 && ((evsOf l).drop (k + 1)).all light)) := by rw [Hid, HP.out, hd, List.all_cons]
    clear hra g1 hd HP hda
    generalize l[k] = x at *
    obtain ⟨e, ax, cx⟩ := x
    simp only [itEv] at *
    have hL0 := fun (W : World) => Light_any e ax cx W m1 m2 m3 m4 m5
    cases hli : light e with
    | true =>
      have HE : Hid (lightAll n (evsOf l) = ((evsOf l).drop (k + 1)).all light) := by rw [Hid, HT.out, hli]; rfl
      rw [hli] at hL0
      have HL := Lib.hid hL0
      clear hL0 HT hli m1 m2 m3 m4 m5
      go_wp2_with (first
       | ((with_reducible refine wpList_load_evo _ A (off + k * 19) e ax cx r1 ?_ rfl ?_); exact rfl)
       | (go_at_call 41; (with_reducible refine (HL.out _).mono ?_); rintro v w1 ⟨rfl, hb⟩))
      go_roundw
      case rel => exact ⟨k + 1, by omega, by go_num, HE.out, hbw.trans (hb.mono hzw)⟩
      case measure => simp [intOf] <;> omega
    | false =>
      have HE : Hid (lightAll n (evsOf l) = false) := by rw [Hid, HT.out, hli]; rfl
      rw [hli] at hL0
      have HL := Lib.hid hL0
      clear hL0 HT hli m1 m2 m3 m4 m5
      go_wp2_with (first
       | ((with_reducible refine wpList_load_evo _ A (off + k * 19) e ax cx r1 ?_ rfl ?_); exact rfl)
       | (go_at_call 41; (with_reducible refine (HL.out _).mono ?_); rintro v w1 ⟨rfl, hb⟩))
      go_ret
      exact ⟨ret_bool HE.out.symm, hbw.trans (hb.mono hzw)⟩
   ·have HE : Hid (lightAll n (evsOf l) = true) := by rw [Hid, HP.out, List.drop_eq_nil_of_le (by rw [evsOf_length]; omega)]; rfl
    go_wp2
    go_ret
    exact ⟨ret_bool HE.out.symm, hbw⟩
 ·have hdn : decide (n < l.length) = true := decide_eq_true (by omega)
  have hdi : decide ((n : Int) < (l.length : Int)) = true := decide_eq_true (by omega)
  have HE : Hid (lightAll n (evsOf l) = false) := by unfold Hid lightAll; rw [evsOf_length, decide_eq_false hle]; rfl
  go_enter Tryz.func26, Tryz.ntmps26
  go_wp2
  go_ret
  exact ⟨ret_bool HE.out.symm, by go_grown⟩
end Go.Proofs.YtpbobhfnglikmaaGreat
