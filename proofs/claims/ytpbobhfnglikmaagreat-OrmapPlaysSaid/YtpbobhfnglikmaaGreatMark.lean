/- Marks: may they be, are they the same. A mark's cells are a dot's. Conditions: at most 2^30 marks. -/
import Derived.Test.YtpbobhfnglikmaaGreatDot
import Derived.Test.YtpbobhfnglikmaaGreatLoad
set_option linter.unusedSimpArgs false
set_option linter.unusedVariables false
set_option linter.unnecessarySimpa false
namespace Go.Proofs.YtpbobhfnglikmaaGreat
open Go.RowKit
theorem noGuardMark : Tryz.prog.eqGuardType Tryz.prog.depth 127 = false := by kernel_rfl
theorem eqMark (W : World) (d : Nat) (a b : Dot) : (Op.equalIn (d + 3) 127 (.agg #[.int .i64 a.a.dev, .int .i64 a.a.inc, .int .i64 a.seq]) (.agg #[.int .i64 b.a.dev, .int .i64 b.a.inc, .int .i64 b.seq])).run Tryz.prog W = .ok (decide (a = b)) W := by
 rw [run_equalIn_agg W (d + 2) 127 _ _ (by kernel_rfl) (by kernel_rfl), fieldsOf_eq Tryz.underlying127]
 simp only [Op.eqFields]
 have h0 := eqActor W d a.a b.a
 simp only [actor_iff] at h0
 go_simp
 simp only [dot_iff]
 repeat' split
 all_goals simp_all
set_option maxRecDepth 100000 in
set_option maxHeartbeats 1000000 in
theorem rSameMarks_any (a b : Option Addr) (ca cb : Nat) (l m : List Dot) (w : World) (hl : l.length ≤ 1073741824) (hm : m.length ≤ 1073741824) (ha : DotsIn w a l) (hb : DotsIn w b m) :
 Calls Tryz.prog 31 #[.slice a l.length ca, .slice b m.length cb] w fun x w' => x = .returned (.bool (decide (l = m))) ∧ Below w.heap.size w w' := by
 by_cases hlen : l.length = m.length
 ·have hb1 : ((l.length : Nat) != (m.length : Nat)) = false := by rw [bne_eq_false_iff_eq]; exact hlen
  have hb2 : ((l.length : Int) != (m.length : Int)) = false := by rw [bne_eq_false_iff_eq]; omega
  have hl1 : l.length ≤ m.length := by omega
  have hl2 : m.length ≤ l.length := by omega
  clear hlen
  go_enter Tryz.func31, Tryz.ntmps31
  go_wp2
  go_loopw [5] (fun i wr => ∃ k : Nat, k ≤ l.length ∧ i = .int .i64 k ∧ l.take k = m.take k ∧ Below w.heap.size w wr) (fun i _ => l.length - (intOf i).toNat)
  case atStart => exact ⟨0, Nat.zero_le _, rfl, rfl, by go_grown⟩
  case round =>
        obtain ⟨k, hk, rfl, hpre, hbw⟩ := hrel
        have HP := Lib.hid hpre
        clear hpre
        by_cases hlt : k < l.length
        ·have hlm : k < m.length := by omega
         rcases ha with h | ⟨A, off, rfl, hda⟩
         ·rw [h] at hlt; simp at hlt
         rcases hb with h | ⟨B, ofb, rfl, hdb⟩
         ·rw [h] at hlm; simp at hlm
         have x0 := (hda.kept hbw).dev k hlt
         have x1 := (hda.kept hbw).inc k hlt
         have x2 := (hda.kept hbw).seq k hlt
         have y0 := (hdb.kept hbw).dev k hlm
         have y1 := (hdb.kept hbw).inc k hlm
         have y2 := (hdb.kept hbw).seq k hlm
         have hEq := fun (W : World) => eqMark W 9997 l[k] m[k]
         have hm := noGuardMark
         by_cases he : l[k] = m[k]
         ·rw [decide_eq_true he] at hEq
          have HS := Lib.hid (take_next hlt hlm HP.out he)
          clear he
          generalize l[k] = x at *
          generalize m[k] = y at *
          go_wp2
          go_quiet (fail)
          go_wp2
          go_roundw
          case rel => exact ⟨k + 1, by omega, by go_num, HS.out, below_drewN hbw nq⟩
          case measure => simp [intOf] <;> omega
         ·have HE : Hid (decide (l = m) = false) := decide_eq_false (take_ne hlt hlm he)
          rw [decide_eq_false he] at hEq
          clear he
          generalize l[k] = x at *
          generalize m[k] = y at *
          go_wp2
          go_quiet (fail)
          go_wp2
          go_ret
          exact ⟨ret_bool HE.out.symm, below_drewN hbw nq⟩
        ·have hlm : ¬ k < m.length := by omega
         have HE : Hid (decide (l = m) = true) := decide_eq_true (take_all hlt hlm HP.out)
         go_wp2
         go_ret
         exact ⟨ret_bool HE.out.symm, hbw⟩
 ·have HE : Hid (decide (l = m) = false) := decide_eq_false (len_ne hlen)
  have hb1 : ((l.length : Nat) != (m.length : Nat)) = true := by rw [bne_iff_ne]; exact hlen
  have hb2 : ((l.length : Int) != (m.length : Int)) = true := by rw [bne_iff_ne]; omega
  clear hlen
  go_enter Tryz.func31, Tryz.ntmps31
  go_wp2
  go_ret
  exact ⟨ret_bool HE.out.symm, by go_grown⟩
/-! ### may marks be? -/
def markNext : Option Dot → Dot → Bool
 | none, _ => true
 | some y, x => actorLt y.a x.a
def marksFrom : Option Dot → List Dot → Int
 | _, [] => 0
 | p, x :: r => if dotOk x = true then (if markNext p x = true then marksFrom (some x) r else 6) else 4
def marksErr (l : List Dot) : Int := if 4096 < l.length then 3 else marksFrom none l
set_option maxRecDepth 100000 in
theorem vecRight_any (a : Actor) (n : Int) (w : World) :
 Calls Tryz.prog 184 #[.agg #[.int .i64 a.dev, .int .i64 a.inc], .int .i64 n] w fun e w' => e = .returned (.bool (dotOk ⟨a, n⟩)) ∧ Below w.heap.size w w' := by
 have HR := Lib.hid (fun (W : World) => dotRight_any ⟨a, n⟩ W)
 go_enter Tryz.func184, Tryz.ntmps184
 go_wp2_with (go_at_call 130; (with_reducible refine (HR.out _).mono ?_); rintro x w1 ⟨rfl, hb⟩)
 go_ret
 exact ⟨rfl, below2 (by go_grown) hb⟩
end Go.Proofs.YtpbobhfnglikmaaGreat
/- May marks be: the program's check and the reference's. Conditions: at most 2^30 marks. -/
namespace Go.Proofs.YtpbobhfnglikmaaGreat
open Go.RowKit
end Go.Proofs.YtpbobhfnglikmaaGreat
