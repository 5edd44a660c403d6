/- The reference's rounds and its refining. -/
import Derived.Test.YtlnikgcanimggaaGreatKey
import Derived.Test.YtlnikgcanimggaaGreatPlainRound
set_option linter.unusedSimpArgs false
set_option linter.unusedVariables false
namespace Go.Proofs.YtlnikgcanimggaaGreat
open Go.RowKit Plain

end Go.Proofs.YtlnikgcanimggaaGreat
