/- (Nothing of the disk's iteration is wanted here.) -/
import Derived.WalkKit
import Derived.Shelf.SlIter.Nil
import Derived.Shelf.SortM.Plain
namespace Go.Proofs.YtohcmljigcdmbaaGreat
end Go.Proofs.YtohcmljigcdmbaaGreat
