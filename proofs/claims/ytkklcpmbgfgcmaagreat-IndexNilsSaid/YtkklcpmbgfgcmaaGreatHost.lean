/- Package host and its reference compute the plain functions of Defs. Conditions: texts of at most 2^30 bytes. -/
import Derived.Test.YtkklcpmbgfgcmaaGreatRefA
set_option linter.unusedSimpArgs false
set_option linter.unusedVariables false
set_option linter.unnecessarySimpa false
namespace Go.Proofs.YtkklcpmbgfgcmaaGreat
open Go.RowKit
end Go.Proofs.YtkklcpmbgfgcmaaGreat
/- Package host and its reference, second part: labels and addresses in brackets. Conditions: texts of at most 2^30 bytes. -/
namespace Go.Proofs.YtkklcpmbgfgcmaaGreat
open Go.RowKit
end Go.Proofs.YtkklcpmbgfgcmaaGreat
/- Package host and its reference, third part: the reference's label; addresses in brackets. Conditions: texts of at most 2^30 bytes. -/
namespace Go.Proofs.YtkklcpmbgfgcmaaGreat
open Go.RowKit
end Go.Proofs.YtkklcpmbgfgcmaaGreat
/- Package host and its reference, fourth part: four numbers, addresses, names. Conditions: texts of at most 2^30 bytes. -/
namespace Go.Proofs.YtkklcpmbgfgcmaaGreat
open Go.RowKit
end Go.Proofs.YtkklcpmbgfgcmaaGreat
/- Package host's reference, fifth part: four numbers. Conditions: texts of at most 2^30 bytes. -/
namespace Go.Proofs.YtkklcpmbgfgcmaaGreat
open Go.RowKit
end Go.Proofs.YtkklcpmbgfgcmaaGreat
/- Package host's reference, sixth part: four numbers, walked. Conditions: texts of at most 2^30 bytes. -/
namespace Go.Proofs.YtkklcpmbgfgcmaaGreat
open Go.RowKit
end Go.Proofs.YtkklcpmbgfgcmaaGreat
/- Package host and its reference, last part: addresses, names, canonical texts. Conditions: texts of at most 2^30 bytes. -/
namespace Go.Proofs.YtkklcpmbgfgcmaaGreat
open Go.RowKit
end Go.Proofs.YtkklcpmbgfgcmaaGreat
/- host.Canon and the reference's Canonical; what is canonical has no capitals. Conditions: texts of at most 2^30 bytes. -/
namespace Go.Proofs.YtkklcpmbgfgcmaaGreat
open Go.RowKit
/-! ### what is canonical has no capitals -/
end Go.Proofs.YtkklcpmbgfgcmaaGreat
