/- The reference's compare: lists, element by element. -/
import Derived.Test.YtlnikgcanimggaaGreatProg
import Derived.Test.YtlnikgcanimggaaGreatBase
import Derived.Test.YtlnikgcanimggaaGreatPlain
set_option linter.unusedSimpArgs false
set_option linter.unusedVariables false
namespace Go.Proofs.YtlnikgcanimggaaGreat
open Go.RowKit Plain

end Go.Proofs.YtlnikgcanimggaaGreat
