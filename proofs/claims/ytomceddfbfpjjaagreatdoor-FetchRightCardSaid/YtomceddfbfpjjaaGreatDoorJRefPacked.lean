/- The reference's PackText: the contract. The reference's PackOf: the contract. The reference's TreeSum: the contract. -/
import Derived.Test.YtomceddfbfpjjaaGreatDoorJPackedUp
import Derived.Test.YtomceddfbfpjjaaGreatDoorJTreed
import Derived.Test.YtomceddfbfpjjaaGreatDoorJTexts
import Derived.Test.YtomceddfbfpjjaaGreatDoorJRefTree
import Derived.Test.YtomceddfbfpjjaaGreatDoorJSummed
namespace Go.Proofs.YtomceddfbfpjjaaGreatDoor
open Go Go.RowKit

end Go.Proofs.YtomceddfbfpjjaaGreatDoor

namespace Go.Proofs.YtomceddfbfpjjaaGreatDoor
open Go Go.RowKit

end Go.Proofs.YtomceddfbfpjjaaGreatDoor

namespace Go.Proofs.YtomceddfbfpjjaaGreatDoor
open Go Go.RowKit

end Go.Proofs.YtomceddfbfpjjaaGreatDoor
