/- slices.Delete of one file of a row of the call's own; slices.IndexFunc by path: contracts. tree.Drop: the contract. -/
import Derived.Test.YtomceddfbfpjjaaGreatDoorKTreeIns
import Derived.Test.YtomceddfbfpjjaaGreatDoorKTreeFew
import Derived.Test.YtomceddfbfpjjaaGreatDoorKTreePlains
import Derived.IntWalk
import Derived.Test.YtomceddfbfpjjaaGreatDoorKTreeSort
namespace Go.Proofs.YtomceddfbfpjjaaGreatDoor
open Go Go.RowKit

end Go.Proofs.YtomceddfbfpjjaaGreatDoor

namespace Go.Proofs.YtomceddfbfpjjaaGreatDoor
open Go Go.RowKit

end Go.Proofs.YtomceddfbfpjjaaGreatDoor
