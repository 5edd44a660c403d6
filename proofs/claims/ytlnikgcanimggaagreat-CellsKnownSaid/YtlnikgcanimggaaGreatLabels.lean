/- The reference's labels of a partition. -/
import Derived.Test.YtlnikgcanimggaaGreatCheck
import Derived.Test.YtlnikgcanimggaaGreatCollect
import Derived.Test.YtlnikgcanimggaaGreatPlainLabels
set_option linter.unusedSimpArgs false
set_option linter.unusedVariables false
namespace Go.Proofs.YtlnikgcanimggaaGreat
open Go.RowKit Plain

end Go.Proofs.YtlnikgcanimggaaGreat
