/- slices.Delete of one file of a row of the call's own; slices.IndexFunc by path: contracts. tree.Drop: the contract. -/
import Derived.Test.YtgchgdkpipanjaaGreatDoorJTreePuts
import Derived.Test.YtgchgdkpipanjaaGreatDoorJTreeFew
import Derived.Test.YtgchgdkpipanjaaGreatDoorJTreePlains
import Derived.IntWalk
import Derived.Test.YtgchgdkpipanjaaGreatDoorJTreeSort
namespace Go.Proofs.YtgchgdkpipanjaaGreatDoor
open Go Go.RowKit

end Go.Proofs.YtgchgdkpipanjaaGreatDoor

namespace Go.Proofs.YtgchgdkpipanjaaGreatDoor
open Go Go.RowKit

end Go.Proofs.YtgchgdkpipanjaaGreatDoor
