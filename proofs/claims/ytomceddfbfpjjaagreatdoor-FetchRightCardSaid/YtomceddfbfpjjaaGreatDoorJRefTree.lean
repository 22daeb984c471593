/- The reference's TreeFault: the contract. -/
import Derived.Test.YtomceddfbfpjjaaGreatDoorJTold
import Derived.Test.YtomceddfbfpjjaaGreatDoorJTreed
import Derived.Test.YtomceddfbfpjjaaGreatDoorJRefPathed
namespace Go.Proofs.YtomceddfbfpjjaaGreatDoor
open Go Go.RowKit

end Go.Proofs.YtomceddfbfpjjaaGreatDoor
