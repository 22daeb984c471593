/- The reference's TreeFault: the contract. -/
import Derived.Test.YtgchgdkpipanjaaGreatDoorKTold
import Derived.Test.YtgchgdkpipanjaaGreatDoorKTreed
import Derived.Test.YtgchgdkpipanjaaGreatDoorKRefPathed
namespace Go.Proofs.YtgchgdkpipanjaaGreatDoor
open Go Go.RowKit

end Go.Proofs.YtgchgdkpipanjaaGreatDoor
