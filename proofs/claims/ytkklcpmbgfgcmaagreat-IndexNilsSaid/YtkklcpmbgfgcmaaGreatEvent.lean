/- Which events may be: event.Right. Conditions: texts of at most 2^30 bytes, at most 2^30 dots. -/
import Derived.Test.YtkklcpmbgfgcmaaGreatDot
import Derived.Test.YtkklcpmbgfgcmaaGreatItem
set_option linter.unusedSimpArgs false
set_option linter.unusedVariables false
set_option linter.unnecessarySimpa false
namespace Go.Proofs.YtkklcpmbgfgcmaaGreat
open Go.RowKit
structure Ev where
 dot : Dot
 stamp : Stamp
 kind : Int
 key : Key
 ck : Ck
 over : List Dot
 deriving DecidableEq
def key0 : Key := ⟨ByteArray.empty, ByteArray.empty, ByteArray.empty⟩
def ck0 : Ck := ⟨ByteArray.empty, false, false, false, false, 0, 0, 0⟩
end Go.Proofs.YtkklcpmbgfgcmaaGreat
