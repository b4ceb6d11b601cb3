/- Package host and its reference compute the plain functions of Defs. Conditions: texts of at most 2^30 bytes. -/
import Derived.Test.YtnpdfmpjjomhcaaRefA
set_option linter.unusedSimpArgs false
set_option linter.unusedVariables false
set_option linter.unnecessarySimpa false
namespace Go.Proofs.Ytnpdfmpjjomhcaa
open Go.RowKit

def signAt (c : UInt8) (e : Bool) : Bool := isSign c && !(e && isDash c)

set_option maxHeartbeats 1000000 in
theorem sign_any (c : UInt8) (b : Bool) (w : World) : Calls Try.prog 93 #[.int .u8 c.toNat, .bool b] w fun e w' => e = .returned (.bool (signAt c b)) ∧ w = w' := by
  by_cases h45 : c.toNat = 45
  · have h1 : ((c.toNat : Int) == 45) = true := beq_iff_eq.2 (by omega)
    have HC := Lib.hid h45
    cases b with
    | true =>
      go_enter Try.func93, Try.ntmps93
      go_wp2
      go_ret
      exact ⟨ret_bool (by unfold signAt isDash; simp [HC.out]), rfl⟩
    | false =>
      go_enter Try.func93, Try.ntmps93
      go_wp2
      go_ret
      exact ⟨ret_bool (by unfold signAt isSign; simp [HC.out]), rfl⟩
  · have h1 : ((c.toNat : Int) == 45) = false := beq_eq_false_iff_ne.2 (by omega)
    have HC := Lib.hid h45
    have HD : Hid (isDash c = false) := by unfold Hid isDash; simp [h45]
    clear h45
    go_enter Try.func93, Try.ntmps93
    go_wp2
    all_goals
      go_ret
      exact ⟨ret_bool (by have h9 := HC.out; unfold signAt; rw [HD.out]; unfold isSign; rw [Bool.eq_iff_iff]; simp; (first | omega | (simp only [beq_iff_eq, beq_eq_false_iff_ne, ne_eq, bne_iff_ne, bne_eq_false_iff_eq, decide_eq_true_eq, decide_eq_false_iff_not, Bool.not_eq_eq_eq_not, Bool.not_true, Bool.not_false] at *; omega))), rfl⟩

/-- what is left of a label's test -/
def labelFrom (l : Bytes) (k : Nat) : Bool := (l.drop k).all isSign && (decide (0 < k) || !(l.head?.any isDash)) && (decide (k = l.length) || !(l.getLast?.any isDash))
theorem labelFrom_step (l : Bytes) (k : Nat) (h : k < l.length) : labelFrom l k = (signAt l[k] (decide (k = 0) || decide (k = l.length - 1)) && labelFrom l (k + 1)) := by
  unfold labelFrom signAt
  rw [List.drop_eq_getElem_cons h, List.all_cons]
  have hh : l.head? = some l[0] := by rw [List.head?_eq_getElem?]; simp
  have hg : l.getLast? = some l[l.length - 1] := by rw [List.getLast?_eq_getElem?]; simp
  rw [hh, hg]
  simp only [Option.any_some]
  rw [Bool.eq_iff_iff]
  by_cases h0 : k = 0
  · subst h0
    by_cases h1 : l.length - 1 = 0
    · have e1 : l.length = 1 := by omega
      simp only [e1]
      simp [e1]
      intros; grind
    · have e1 : ¬ (0 = l.length - 1) := by omega
      have e2 : ¬ (0 = l.length) := by omega
      have e3 : ¬ (0 + 1 = l.length) := by omega
      simp [e1, e2, e3]
      grind
  · by_cases h1 : k = l.length - 1
    · subst h1
      have e2 : ¬ (l.length - 1 = l.length) := by omega
      have e3 : l.length - 1 + 1 = l.length := by omega
      simp [h0, e2, e3]
      grind
    · have e2 : ¬ (k = l.length) := by omega
      have e3 : ¬ (k + 1 = l.length) := by omega
      simp [h0, h1, e2, e3]
      grind
theorem label_eq (l : Bytes) (h1 : 1 ≤ l.length) (h2 : l.length ≤ 63) : label l = labelFrom l 0 := by
  unfold label labelFrom
  have e : ¬ (0 = l.length) := by omega
  simp [h1, h2, e]
theorem labelFrom_all (l : Bytes) (h : 0 < l.length) : labelFrom l l.length = true := by
  unfold labelFrom; simp [h]
end Go.Proofs.Ytnpdfmpjjomhcaa
