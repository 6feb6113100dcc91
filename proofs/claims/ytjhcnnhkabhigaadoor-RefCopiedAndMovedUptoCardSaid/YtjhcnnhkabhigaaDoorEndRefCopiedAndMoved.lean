/- Copied references move without the marked parts, and references into a moved block move with it: the law holds of the program for every input whose arguments hold together at most 1048576 values and letters. -/
import Derived.Test.YtjhcnnhkabhigaaDoorRowRefCopiedAndMoved
import Derived.Test.YtjhcnnhkabhigaaDoorLawB
namespace Go.Proofs.YtjhcnnhkabhigaaDoor
open Go Go.Fe
theorem RefCopiedAndMoved_holds : Rows.RefCopiedAndMovedUptoCardSaid :=
  RefCopiedAndMoved.card fun x _ _ => copiedMoved_law x.1 x.2.1 x.2.2.1 x.2.2.2.1
#print axioms RefCopiedAndMoved_holds
end Go.Proofs.YtjhcnnhkabhigaaDoor
