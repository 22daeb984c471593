/- chandlerylaw1.rooted: a closed fact. -/
import Derived.Test.YtomceddfbfpjjaaGreatDoorJTreeIns
import Derived.Test.YtomceddfbfpjjaaGreatDoorJTold
import Derived.Test.YtomceddfbfpjjaaGreatDoorJTreeFew
namespace Go.Proofs.YtomceddfbfpjjaaGreatDoor
open Go Go.RowKit

end Go.Proofs.YtomceddfbfpjjaaGreatDoor
