/- Package cookie's tests of texts and times, and the reference's. Conditions: texts of at most 2^30 bytes. -/
import Derived.Test.YtohmadchgacafaaHost
set_option linter.unusedSimpArgs false
set_option linter.unusedVariables false
set_option linter.unnecessarySimpa false
namespace Go.Proofs.Ytohmadchgacafaa
open Go.RowKit

/-- a text that is short, without controls, some signs, and blanks at its ends -/
def plainOk (most : Nat) (signs l : Bytes) : Bool := decide (l.length ≤ most) && (!control l && (decide (trim l = l) && signs.all fun c => decide (findB c l = none)))
theorem cutB_is (c : UInt8) (l : Bytes) : (cutB c l).2.2 = !decide (findB c l = none) := by
  unfold cutB; cases findB c l <;> simp

/-- the reference's test of a text -/
def plainR (l : Bytes) : Bool := !control l && (decide (findB 59 l = none) && decide (trim l = l))
theorem findI_lt (l : Bytes) (c : UInt8) : decide (findI l c < 0) = decide (findB c l = none) := by
  unfold findI; cases findB c l <;> simp

end Go.Proofs.Ytohmadchgacafaa
