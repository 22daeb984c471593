/- slices.BinarySearchFunc by tree.compare, over files in order: the contract. -/
import Derived.Test.YtomceddfbfpjjaaGreatDoorKSortTail
import Derived.Test.YtomceddfbfpjjaaGreatDoorKTreePlains
namespace Go.Proofs.YtomceddfbfpjjaaGreatDoor
open Go Go.RowKit Go.Lib Go.Sort

end Go.Proofs.YtomceddfbfpjjaaGreatDoor
