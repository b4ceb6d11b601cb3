/- Which events are short enough to be gone over: the reference's Light. Conditions: none. -/
import Derived.Test.YtcijajjngmmbeaaGreatLoad
set_option linter.unusedSimpArgs false
set_option linter.unusedVariables false
set_option linter.unnecessarySimpa false
namespace Go.Proofs.YtcijajjngmmbeaaGreat
open Go.RowKit

def light (e : Ev) : Bool := decide (e.over.length ≤ 100) && (decide (e.key.name.size ≤ 2000) && (decide (e.key.domain.size ≤ 2000) && (decide (e.key.path.size ≤ 2000) && decide (e.ck.value.size ≤ 2000))))
theorem light_small {e : Ev} (h : light e = true) : EvSmall e := by
  unfold light at h
  simp only [Bool.and_eq_true, decide_eq_true_eq] at h
  obtain ⟨h1, h2, h3, h4, h5⟩ := h
  exact ⟨by omega, by omega, by omega, by omega, by omega⟩

set_option maxRecDepth 100000 in
set_option maxHeartbeats 2000000 in
theorem Light_any (e : Ev) (a : Option Addr) (cap : Nat) (w : World) (hol : e.over.length ≤ maxLen) (h7 : e.key.name.size ≤ maxLen) (h8 : e.key.domain.size ≤ maxLen) (h9 : e.key.path.size ≤ maxLen) (h10 : e.ck.value.size ≤ maxLen) :
    Calls Tryz.prog 50 #[evVal e a cap] w fun x w' => x = .returned (.bool (light e)) ∧ Below w.heap.size w w' := by
  unfold maxLen at hol h7 h8 h9 h10
  have HL : Hid (light e = (decide (e.over.length ≤ 100) && (decide (e.key.name.size ≤ 2000) && (decide (e.key.domain.size ≤ 2000) && (decide (e.key.path.size ≤ 2000) && decide (e.ck.value.size ≤ 2000)))))) := rfl
  by_cases t0 : e.over.length ≤ 100
  · skip
    by_cases t1 : e.key.name.size ≤ 2000
    · skip
      by_cases t2 : e.key.domain.size ≤ 2000
      · skip
        by_cases t3 : e.key.path.size ≤ 2000
        · skip
          by_cases t4 : e.ck.value.size ≤ 2000
          · skip
            have HE : Hid (light e = true) := by rw [Hid, HL.out]; simp [t0, t1, t2, t3, t4]
            go_enter Tryz.func50, Tryz.ntmps50
            go_wp2
            go_ret
            exact ⟨ret_bool (by first | exact HE.out.symm | (rw [HE.out]; simp; omega)), by go_grown⟩
          · have d4 : decide (e.ck.value.size ≤ 2000) = false := decide_eq_false t4
            have HE : Hid (light e = false) := by rw [Hid, HL.out]; simp [t0, t1, t2, t3, t4]
            go_enter Tryz.func50, Tryz.ntmps50
            go_wp2
            go_ret
            exact ⟨ret_bool (by first | exact HE.out.symm | (rw [HE.out]; simp; omega)), by go_grown⟩
        · have d3 : decide (e.key.path.size ≤ 2000) = false := decide_eq_false t3
          have HE : Hid (light e = false) := by rw [Hid, HL.out]; simp [t0, t1, t2, t3]
          go_enter Tryz.func50, Tryz.ntmps50
          go_wp2
          go_ret
          exact ⟨ret_bool (by first | exact HE.out.symm | (rw [HE.out]; simp; omega)), by go_grown⟩
      · have d2 : decide (e.key.domain.size ≤ 2000) = false := decide_eq_false t2
        have HE : Hid (light e = false) := by rw [Hid, HL.out]; simp [t0, t1, t2]
        go_enter Tryz.func50, Tryz.ntmps50
        go_wp2
        go_ret
        exact ⟨ret_bool (by first | exact HE.out.symm | (rw [HE.out]; simp; omega)), by go_grown⟩
    · have d1 : decide (e.key.name.size ≤ 2000) = false := decide_eq_false t1
      have HE : Hid (light e = false) := by rw [Hid, HL.out]; simp [t0, t1]
      go_enter Tryz.func50, Tryz.ntmps50
      go_wp2
      go_ret
      exact ⟨ret_bool (by first | exact HE.out.symm | (rw [HE.out]; simp; omega)), by go_grown⟩
  · have d0 : decide (e.over.length ≤ 100) = false := decide_eq_false t0
    have HE : Hid (light e = false) := by rw [Hid, HL.out]; simp [t0]
    go_enter Tryz.func50, Tryz.ntmps50
    go_wp2
    go_ret
    exact ⟨ret_bool (by first | exact HE.out.symm | (rw [HE.out]; simp; omega)), by go_grown⟩
end Go.Proofs.YtcijajjngmmbeaaGreat
