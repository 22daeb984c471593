/- Nothing: this seat does not reach plain.Code (the text bears the name that other texts import). -/
import Derived.Test.YtjebljhhbnfpfaaDoorJErrors
namespace Go.Proofs.YtjebljhhbnfpfaaDoor
end Go.Proofs.YtjebljhhbnfpfaaDoor
