/- The reference's WantError: the contract. -/
import Derived.Test.YtomceddfbfpjjaaGreatDoorJWantAll
import Derived.Test.YtomceddfbfpjjaaGreatDoorJRefLinkUp
import Derived.Test.YtomceddfbfpjjaaGreatDoorJSummed
namespace Go.Proofs.YtomceddfbfpjjaaGreatDoor
open Go Go.RowKit

end Go.Proofs.YtomceddfbfpjjaaGreatDoor
