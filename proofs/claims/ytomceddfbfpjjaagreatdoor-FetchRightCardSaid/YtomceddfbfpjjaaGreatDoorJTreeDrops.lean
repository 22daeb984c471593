/- slices.Delete of one file of a row of the call's own; slices.IndexFunc by path: contracts. tree.Drop: the contract. -/
import Derived.Test.YtomceddfbfpjjaaGreatDoorJTreeIns
import Derived.Test.YtomceddfbfpjjaaGreatDoorJTreeFew
import Derived.Test.YtomceddfbfpjjaaGreatDoorJTreePlains
import Derived.IntWalk
import Derived.Test.YtomceddfbfpjjaaGreatDoorJTreeSort
namespace Go.Proofs.YtomceddfbfpjjaaGreatDoor
open Go Go.RowKit

end Go.Proofs.YtomceddfbfpjjaaGreatDoor

namespace Go.Proofs.YtomceddfbfpjjaaGreatDoor
open Go Go.RowKit

end Go.Proofs.YtomceddfbfpjjaaGreatDoor
