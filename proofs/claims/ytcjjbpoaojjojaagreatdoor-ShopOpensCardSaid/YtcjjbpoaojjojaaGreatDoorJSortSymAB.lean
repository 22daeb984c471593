/- The stable sort's merging at files: symMergeCmpFunc, the middle lies ahead of m. The stable sort's merging at files: symMergeCmpFunc, the middle does not lie ahead of m. -/
import Derived.Test.YtcjjbpoaojjojaaGreatDoorJSortPlainlyEtc
import Derived.Deep.DeepCutAuto
import Derived.Deep.CutRange
namespace Go.Proofs.YtcjjbpoaojjojaaGreatDoor
open Go Go.RowKit Go.Lib Go.Sort

end Go.Proofs.YtcjjbpoaojjojaaGreatDoor

namespace Go.Proofs.YtcjjbpoaojjojaaGreatDoor
open Go Go.RowKit Go.Lib Go.Sort

end Go.Proofs.YtcjjbpoaojjojaaGreatDoor
