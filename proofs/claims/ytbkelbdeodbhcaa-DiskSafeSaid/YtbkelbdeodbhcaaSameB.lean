/- Bytes compared. Conditions: at most 2^30 of them. -/
import Derived.Test.YtbkelbdeodbhcaaPack
import Derived.WalkSmall
set_option linter.unusedSimpArgs false
set_option linter.unusedVariables false
set_option linter.unnecessarySimpa false
namespace Go.Proofs.Ytbkelbdeodbhcaa
open Go.RowKit

theorem take_ne {α : Type} {l m : List α} {k : Nat} (h1 : k < l.length) (h2 : k < m.length) (h : l[k] ≠ m[k]) : l ≠ m := fun e => h (by subst e; rfl)
theorem take_next {α : Type} {l m : List α} {k : Nat} (h1 : k < l.length) (h2 : k < m.length) (hp : l.take k = m.take k) (h : l[k] = m[k]) : l.take (k + 1) = m.take (k + 1) := by
  rw [List.take_succ_eq_append_getElem h1, List.take_succ_eq_append_getElem h2, hp, h]
theorem take_all {α : Type} {l m : List α} {k : Nat} (h1 : ¬ k < l.length) (h2 : ¬ k < m.length) (hp : l.take k = m.take k) : l = m := by
  rwa [List.take_of_length_le (by omega), List.take_of_length_le (by omega)] at hp
theorem len_ne {α : Type} {l m : List α} (h : ¬ l.length = m.length) : ¬ l = m := fun e => h (by rw [e])


set_option maxRecDepth 100000 in
set_option maxHeartbeats 1000000 in
theorem rSameBytes_any (a b : Option Addr) (ca cb : Nat) (l m : Bytes) (w : World) (hl : l.length ≤ 1073741824) (hm : m.length ≤ 1073741824) (ha : BytesIn w a l) (hb : BytesIn w b m) :
    Calls Try.prog 16 #[.slice a l.length ca, .slice b m.length cb] w fun x w' => x = .returned (.bool (decide (l = m))) ∧ Below w.heap.size w w' := by
    by_cases hlen : l.length = m.length
    · have hb1 : ((l.length : Nat) != (m.length : Nat)) = false := by rw [bne_eq_false_iff_eq]; exact hlen
      have hb2 : ((l.length : Int) != (m.length : Int)) = false := by rw [bne_eq_false_iff_eq]; omega
      have hl1 : l.length ≤ m.length := by omega
      have hl2 : m.length ≤ l.length := by omega
      clear hlen
      go_enter Try.func16, Try.ntmps16
      go_wp2
      go_loopw [5] (fun i wr => ∃ k : Nat, k ≤ l.length ∧ i = .int .i64 k ∧ l.take k = m.take k ∧ Below w.heap.size w wr) (fun i _ => l.length - (intOf i).toNat)
      case atStart => exact ⟨0, Nat.zero_le _, rfl, rfl, by go_grown⟩
      case round =>
        obtain ⟨k, hk, rfl, hpre, hbw⟩ := hrel
        have HP := Lib.hid hpre
        clear hpre
        by_cases hlt : k < l.length
        · have hlm : k < m.length := by omega
          rcases ha with h | ⟨A, off, rfl, hda⟩
          · rw [h] at hlt; simp at hlt
          rcases hb with h | ⟨B, ofb, rfl, hdb⟩
          · rw [h] at hlm; simp at hlm
          have x0 := (hda.below hbw).cell hlt
          have y0 := (hdb.below hbw).cell hlm
          by_cases he : l[k] = m[k]
          · have hq : ((l[k].toNat : Int) != (m[k].toNat : Int)) = false := by rw [bne_eq_false_iff_eq, he]
            have HS := Lib.hid (take_next hlt hlm HP.out he)
            clear he
            generalize l[k] = x at *
            generalize m[k] = y at *
            go_wp2
            go_quiet (fail)
            go_wp2
            go_roundw
            case rel => exact ⟨k + 1, by omega, by go_num, HS.out, below_drewN hbw nq⟩
            case measure => simp [intOf] <;> omega
          · have HE : Hid (decide (l = m) = false) := decide_eq_false (take_ne hlt hlm he)
            have hq : ((l[k].toNat : Int) != (m[k].toNat : Int)) = true := by rw [bne_iff_ne]; exact fun e => he (UInt8.toNat_inj.1 (by omega))
            clear he
            generalize l[k] = x at *
            generalize m[k] = y at *
            go_wp2
            go_quiet (fail)
            go_wp2
            go_ret
            exact ⟨ret_bool HE.out.symm, below_drewN hbw nq⟩
        · have hlm : ¬ k < m.length := by omega
          have HE : Hid (decide (l = m) = true) := decide_eq_true (take_all hlt hlm HP.out)
          go_wp2
          go_ret
          exact ⟨ret_bool HE.out.symm, hbw⟩
    · have HE : Hid (decide (l = m) = false) := decide_eq_false (len_ne hlen)
      have hb1 : ((l.length : Nat) != (m.length : Nat)) = true := by rw [bne_iff_ne]; exact hlen
      have hb2 : ((l.length : Int) != (m.length : Int)) = true := by rw [bne_iff_ne]; omega
      clear hlen
      go_enter Try.func16, Try.ntmps16
      go_wp2
      go_ret
      exact ⟨ret_bool HE.out.symm, by go_grown⟩
end Go.Proofs.Ytbkelbdeodbhcaa
