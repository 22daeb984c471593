/- Nothing: this seat does not reach plain.Code (the text bears the name that other texts import). -/
import Derived.Test.YtgchgdkpipanjaaGreatDoorJErrors
namespace Go.Proofs.YtgchgdkpipanjaaGreatDoor
end Go.Proofs.YtgchgdkpipanjaaGreatDoor
