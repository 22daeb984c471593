/- The reference's FindWant, SameWants, LockFault: contracts; the law's longWants. -/
import Derived.Test.YtgchgdkpipanjaaGreatDoorJLockAll
import Derived.Test.YtgchgdkpipanjaaGreatDoorJWantAll
import Derived.Test.YtgchgdkpipanjaaGreatDoorJRefWantsUp
import Derived.Test.YtgchgdkpipanjaaGreatDoorJTold
import Derived.Test.YtgchgdkpipanjaaGreatDoorJFiles
import Derived.Test.YtgchgdkpipanjaaGreatDoorJWanted
namespace Go.Proofs.YtgchgdkpipanjaaGreatDoor
open Go Go.RowKit

end Go.Proofs.YtgchgdkpipanjaaGreatDoor
