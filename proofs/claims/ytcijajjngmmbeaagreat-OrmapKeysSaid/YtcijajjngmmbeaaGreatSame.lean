/- Bytes compared. Conditions: at most 2^30 of them. -/
import Derived.Test.YtcijajjngmmbeaaGreatOver
import Derived.Test.YtcijajjngmmbeaaGreatPack
import Derived.WalkSmall
set_option linter.unusedSimpArgs false
set_option linter.unusedVariables false
set_option linter.unnecessarySimpa false
namespace Go.Proofs.YtcijajjngmmbeaaGreat
open Go.RowKit

theorem take_ne {α : Type} {l m : List α} {k : Nat} (h1 : k < l.length) (h2 : k < m.length) (h : l[k] ≠ m[k]) : l ≠ m := fun e => h (by subst e; rfl)
theorem take_next {α : Type} {l m : List α} {k : Nat} (h1 : k < l.length) (h2 : k < m.length) (hp : l.take k = m.take k) (h : l[k] = m[k]) : l.take (k + 1) = m.take (k + 1) := by
  rw [List.take_succ_eq_append_getElem h1, List.take_succ_eq_append_getElem h2, hp, h]
theorem take_all {α : Type} {l m : List α} {k : Nat} (h1 : ¬ k < l.length) (h2 : ¬ k < m.length) (hp : l.take k = m.take k) : l = m := by
  rwa [List.take_of_length_le (by omega), List.take_of_length_le (by omega)] at hp
theorem len_ne {α : Type} {l m : List α} (h : ¬ l.length = m.length) : ¬ l = m := fun e => h (by rw [e])


end Go.Proofs.YtcijajjngmmbeaaGreat

/- Lists of dots compared, bytes compared. Conditions: at most 2^30 of them. -/
namespace Go.Proofs.YtcijajjngmmbeaaGreat
open Go.RowKit

set_option maxRecDepth 100000 in
set_option maxHeartbeats 1000000 in
theorem rSameDots_any (a b : Option Addr) (ca cb : Nat) (l m : List Dot) (w : World) (hl : l.length ≤ 1073741824) (hm : m.length ≤ 1073741824) (ha : DotsIn w a l) (hb : DotsIn w b m) :
    Calls Tryz.prog 72 #[.slice a l.length ca, .slice b m.length cb] w fun x w' => x = .returned (.bool (decide (l = m))) ∧ Below w.heap.size w w' := by
    by_cases hlen : l.length = m.length
    · have hb1 : ((l.length : Nat) != (m.length : Nat)) = false := by rw [bne_eq_false_iff_eq]; exact hlen
      have hb2 : ((l.length : Int) != (m.length : Int)) = false := by rw [bne_eq_false_iff_eq]; omega
      have hl1 : l.length ≤ m.length := by omega
      have hl2 : m.length ≤ l.length := by omega
      clear hlen
      go_enter Tryz.func72, Tryz.ntmps72
      go_wp2
      go_loopw [5] (fun i wr => ∃ k : Nat, k ≤ l.length ∧ i = .int .i64 k ∧ l.take k = m.take k ∧ Below w.heap.size w wr) (fun i _ => l.length - (intOf i).toNat)
      case atStart => exact ⟨0, Nat.zero_le _, rfl, rfl, by go_grown⟩
      case round =>
        obtain ⟨k, hk, rfl, hpre, hbw⟩ := hrel
        have HP := Lib.hid hpre
        clear hpre
        by_cases hlt : k < l.length
        · have hlm : k < m.length := by omega
          rcases ha with h | ⟨A, off, rfl, hda⟩
          · rw [h] at hlt; simp at hlt
          rcases hb with h | ⟨B, ofb, rfl, hdb⟩
          · rw [h] at hlm; simp at hlm
          have x0 := (hda.kept hbw).dev k hlt
          have x1 := (hda.kept hbw).inc k hlt
          have x2 := (hda.kept hbw).seq k hlt
          have y0 := (hdb.kept hbw).dev k hlm
          have y1 := (hdb.kept hbw).inc k hlm
          have y2 := (hdb.kept hbw).seq k hlm
          have hEq := fun (W : World) => eqDot W 9997 l[k] m[k]
          have hm := noGuardDot
          by_cases he : l[k] = m[k]
          · rw [decide_eq_true he] at hEq
            have HS := Lib.hid (take_next hlt hlm HP.out he)
            clear he
            generalize l[k] = x at *
            generalize m[k] = y at *
            go_wp2
            go_quiet (fail)
            go_wp2
            go_roundw
            case rel => exact ⟨k + 1, by omega, by go_num, HS.out, below_drewN hbw nq⟩
            case measure => simp [intOf] <;> omega
          · have HE : Hid (decide (l = m) = false) := decide_eq_false (take_ne hlt hlm he)
            rw [decide_eq_false he] at hEq
            clear he
            generalize l[k] = x at *
            generalize m[k] = y at *
            go_wp2
            go_quiet (fail)
            go_wp2
            go_ret
            exact ⟨ret_bool HE.out.symm, below_drewN hbw nq⟩
        · have hlm : ¬ k < m.length := by omega
          have HE : Hid (decide (l = m) = true) := decide_eq_true (take_all hlt hlm HP.out)
          go_wp2
          go_ret
          exact ⟨ret_bool HE.out.symm, hbw⟩
    · have HE : Hid (decide (l = m) = false) := decide_eq_false (len_ne hlen)
      have hb1 : ((l.length : Nat) != (m.length : Nat)) = true := by rw [bne_iff_ne]; exact hlen
      have hb2 : ((l.length : Int) != (m.length : Int)) = true := by rw [bne_iff_ne]; omega
      clear hlen
      go_enter Tryz.func72, Tryz.ntmps72
      go_wp2
      go_ret
      exact ⟨ret_bool HE.out.symm, by go_grown⟩
end Go.Proofs.YtcijajjngmmbeaaGreat
