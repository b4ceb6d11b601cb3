/- A slice of keys under slices.SortFunc, by match.Less. Conditions: at most 2^30 of them. -/
import Derived.Test.YtpbobhfnglikmaaGreatSrtK
import Derived.Test.YtpbobhfnglikmaaGreatKeyOrd
import Derived.Test.YtpbobhfnglikmaaGreatWin
set_option linter.unusedSimpArgs false
set_option linter.unusedVariables false
set_option linter.unnecessarySimpa false
set_option maxHeartbeats 16000000
set_option maxRecDepth 100000
namespace Go.Proofs.YtpbobhfnglikmaaGreat
open Go.RowKit Go.Shelf
instance : Inhabited Key := ⟨⟨ByteArray.empty, ByteArray.empty, ByteArray.empty⟩⟩
end Go.Proofs.YtpbobhfnglikmaaGreat
/- The map of events: Winners. Conditions: as in the text. -/
namespace Go.Proofs.YtpbobhfnglikmaaGreat
open Go.RowKit
end Go.Proofs.YtpbobhfnglikmaaGreat
