/- The reference's RulesFault: the contract. The reference's WaysOf: the contract. -/
import Derived.Test.YtomceddfbfpjjaaGreatDoorJTold
import Derived.Test.YtomceddfbfpjjaaGreatDoorJMirrorUp
import Derived.Test.YtomceddfbfpjjaaGreatDoorJRefLinkUp
import Derived.Test.YtomceddfbfpjjaaGreatDoorJRefPathed
import Derived.Deep.RegionHeld3
namespace Go.Proofs.YtomceddfbfpjjaaGreatDoor
open Go Go.RowKit


end Go.Proofs.YtomceddfbfpjjaaGreatDoor

namespace Go.Proofs.YtomceddfbfpjjaaGreatDoor
open Go Go.RowKit

end Go.Proofs.YtomceddfbfpjjaaGreatDoor
