/- The law DeltaNils, walked. Conditions: none. -/
import Derived.Test.YtcijajjngmmbeaaGreatDelta
import Derived.Test.YtcijajjngmmbeaaGreatOpen
set_option linter.unusedSimpArgs false
set_option linter.unusedVariables false
set_option linter.unnecessarySimpa false
namespace Go.Proofs.YtcijajjngmmbeaaGreat
open Go.RowKit

set_option maxRecDepth 100000 in
set_option maxHeartbeats 2000000 in
theorem lawDlNils_any (a am : Option Addr) (ca cm : Nat) (ls : List EvIt) (l : List Dot) (w : World) (hE : EvsArg w a ls) (hd : DotsIn w am l) (hl : l.length ≤ maxLen) :
    Calls Tryz.prog 6 #[.slice a ls.length ca, .slice am l.length cm] w fun x w' => x = .returned (.bool true) ∧ Below w.heap.size w w' := by
  have HL0 : Calls Tryz.prog 14 #[.slice a ls.length ca, .int .i64 30] w fun x w' => x = .returned (.bool (lightAll 30 (evsOf ls))) ∧ Below w.heap.size w w' := LightAll_any a ca 30 ls w (by decide) hE.len hE.evs (fun x hx => ⟨(hE.each x hx).over, (hE.each x hx).name, (hE.each x hx).domain, (hE.each x hx).path, (hE.each x hx).value⟩)
  have HA := Lib.hid awake22_any
  clear hE
  cases hli : lightAll 30 (evsOf ls) with
  | false =>
    rw [hli] at HL0
    have HL := Lib.hid HL0
    clear HL0 hli
    go_enter Tryz.func6, Tryz.ntmps6
    go_wp2_with (first
      | (go_at_call 14; (with_reducible refine HL.out.mono ?_); rintro x w1 ⟨rfl, hb1⟩)
      | (go_at_call 29; (with_reducible refine (HA.out _).mono ?_); rintro x w2 ⟨rfl, hb2⟩))
    go_ret
    exact ⟨rfl, hb1.trans (hb2.mono hb1.size)⟩
  | true =>
    rw [hli] at HL0
    have HL := Lib.hid HL0
    clear HL0 hli
    by_cases hm : l.length ≤ 100
    · have hdm : decide ((100 : Int) < (l.length : Int)) = false := decide_eq_false (by omega)
      have HO := Lib.hid (fun X => dOf_nil am l.length cm 1 X)
      have HM := Lib.hid (fun X => dMerge_nil a ls.length ca X)
      have HN := Lib.hid (fun (X : World) (h : DotsIn X am l) => dNeeds_nil am cm l X (by omega) h)
      have HB := Lib.hid (fun (X : World) (h : DotsIn X am l) => dBehind_nil am cm l X (by omega) h)
      clear hm hl
      go_enter Tryz.func6, Tryz.ntmps6
      go_upto_region 5 with (first
        | (go_at_call 14; (with_reducible refine HL.out.mono ?_); rintro x w1 ⟨rfl, hb1⟩)
        | (go_at_call 31; (with_reducible refine (HO.out _).mono ?_); rintro x w2 ⟨rfl, hb2⟩)
        | (go_at_call 38; (with_reducible refine (HM.out _).mono ?_); rintro x w3 ⟨rfl, hb3⟩))
      have hbt : Below w.heap.size w w3 := (hb1.trans (hb2.mono hb1.size)).trans (hb3.mono (Nat.le_trans hb1.size hb2.size))
      have hd3 := hd.kept hbt
      clear hb1 hb2 hb3 hd HL HO HM
      go_wp2_with (first
        | (go_at_call 33; (with_reducible refine (HN.out _ hd3).mono ?_); rintro x w4 ⟨rfl, hb4⟩; have hd4 := hd3.kept hb4; have hbu := hbt.trans (hb4.mono hbt.size))
        | (go_at_call 34; (with_reducible refine (HB.out _ hd4).mono ?_); rintro x w5 ⟨rfl, hb5⟩; have hbv := hbu.trans (hb5.mono hbu.size))
        | (go_at_call 29; (with_reducible refine (HA.out _).mono ?_); rintro x w6 ⟨rfl, hb6⟩))
      go_ret
      exact ⟨rfl, hbv.trans (hb6.mono hbv.size)⟩
    · have hdm : decide ((100 : Int) < (l.length : Int)) = true := decide_eq_true (by omega)
      clear hm
      go_enter Tryz.func6, Tryz.ntmps6
      go_wp2_with (first
        | (go_at_call 14; (with_reducible refine HL.out.mono ?_); rintro x w1 ⟨rfl, hb1⟩)
        | (go_at_call 29; (with_reducible refine (HA.out _).mono ?_); rintro x w2 ⟨rfl, hb2⟩))
      go_ret
      exact ⟨rfl, hb1.trans (hb2.mono hb1.size)⟩
end Go.Proofs.YtcijajjngmmbeaaGreat
