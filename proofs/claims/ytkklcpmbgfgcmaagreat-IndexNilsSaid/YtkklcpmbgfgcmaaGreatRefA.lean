/- The reference of package ascii (biscottiref06) computes the plain functions of Defs. Conditions: texts of at most 2^30 bytes. -/
import Derived.Test.YtkklcpmbgfgcmaaGreatAscii
set_option linter.unusedSimpArgs false
set_option linter.unusedVariables false
set_option linter.unnecessarySimpa false
namespace Go.Proofs.YtkklcpmbgfgcmaaGreat
open Go.RowKit
end Go.Proofs.YtkklcpmbgfgcmaaGreat
/- The reference of package ascii (biscottiref06), second part: Trim, Split, Number, Text. Conditions: texts of at most 2^30 bytes. -/
namespace Go.Proofs.YtkklcpmbgfgcmaaGreat
open Go.RowKit
end Go.Proofs.YtkklcpmbgfgcmaaGreat
/- The reference of package ascii (biscottiref06), third part: Number, Text. Conditions: texts of at most 2^30 bytes; numbers from 0 to 2^62. -/
namespace Go.Proofs.YtkklcpmbgfgcmaaGreat
open Go.RowKit
end Go.Proofs.YtkklcpmbgfgcmaaGreat
/- The reference's Text: a number's digits. Conditions: numbers from 0 to 2^62. -/
namespace Go.Proofs.YtkklcpmbgfgcmaaGreat
open Go.RowKit
end Go.Proofs.YtkklcpmbgfgcmaaGreat
