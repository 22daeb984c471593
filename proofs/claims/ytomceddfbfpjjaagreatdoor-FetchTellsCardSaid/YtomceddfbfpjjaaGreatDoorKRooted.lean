/- chandlerylaw1.rooted: a closed fact. -/
import Derived.Test.YtomceddfbfpjjaaGreatDoorKTreeIns
import Derived.Test.YtomceddfbfpjjaaGreatDoorKTold
import Derived.Test.YtomceddfbfpjjaaGreatDoorKTreeFew
namespace Go.Proofs.YtomceddfbfpjjaaGreatDoor
open Go Go.RowKit

end Go.Proofs.YtomceddfbfpjjaaGreatDoor
