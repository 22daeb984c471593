/- The stable sort's merging at files: symMergeCmpFunc, whole. The stable sort at files: stableCmpFunc, SortStableFunc: contracts. What the shelf's insertion sort asks of this program's own copy. (Laid by the kit's tools; the numbers by name.) The stable sort at files: SortStableFunc, by the shelf's insertion sort and the merging. -/
import Derived.Test.YtgchgdkpipanjaaGreatDoorKSortSymAB
import Derived.Test.YtgchgdkpipanjaaGreatDoorKSortPlainly
import Derived.Shelf.SlSortCmp.InsertionK
import Derived.Shelf.SlGeneric
import Derived.Ground.SlsfProg
import Derived.Test.YtgchgdkpipanjaaGreatDoorProg
import Derived.Shelf.SlSortFuncK.ComposeK
namespace Go.Proofs.YtgchgdkpipanjaaGreatDoor
open Go Go.RowKit Go.Lib Go.Sort

end Go.Proofs.YtgchgdkpipanjaaGreatDoor

namespace Go.Proofs.YtgchgdkpipanjaaGreatDoor
open Go Go.RowKit Go.Lib Go.Sort

end Go.Proofs.YtgchgdkpipanjaaGreatDoor

namespace Go.Proofs
open Go.Shelf
end Go.Proofs

namespace Go.Proofs.YtgchgdkpipanjaaGreatDoor
open Go Go.Shelf Go.RowKit Go.Lib Go.Sort

end Go.Proofs.YtgchgdkpipanjaaGreatDoor
