/- Marks, read. Conditions: at most 2^30 bytes. -/
import Derived.Test.YtohcmljigcdmbaaGreatReadK
import Derived.Test.YtohcmljigcdmbaaGreatMark
import Derived.Test.YtohcmljigcdmbaaGreatOpen
import Derived.Test.YtohcmljigcdmbaaGreatClone
import Derived.Great.BuildSlice
import Derived.Test.YtohcmljigcdmbaaGreatMkB
import Derived.Test.YtohcmljigcdmbaaGreatWalB
set_option linter.unusedSimpArgs false
set_option linter.unusedVariables false
set_option linter.unnecessarySimpa false
set_option maxHeartbeats 16000000
set_option maxRecDepth 100000
namespace Go.Proofs.YtohcmljigcdmbaaGreat
open Go.RowKit
theorem Tryz.infoMark : (Tryz.prog.info? 112).map (fun i => (i.zero, i.size, i.bytes)) = some (some (.agg #[.int .i64 0, .int .i64 0, .int .i64 0]), 3, 24) := by kernel_rfl
end Go.Proofs.YtohcmljigcdmbaaGreat
/- What is read has just the bytes that it is packed to: plain laws. Conditions: none. -/
namespace Go.Proofs.YtohcmljigcdmbaaGreat
open Go.RowKit
end Go.Proofs.YtohcmljigcdmbaaGreat
