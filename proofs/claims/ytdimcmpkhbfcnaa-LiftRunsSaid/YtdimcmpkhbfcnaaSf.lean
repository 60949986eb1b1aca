/- Calls that look at a part of an array variable. -/
import Derived.Test.YtdimcmpkhbfcnaaSe
namespace Go.Proofs.Ytdimcmpkhbfcnaa.pv
set_option linter.all false
open Go.RowKit
section
variable {P : Program} {T : List TI}
end
end Go.Proofs.Ytdimcmpkhbfcnaa.pv
