/- Rows of rows: a call that moves elements and looks at none of them. -/
import Derived.Test.YtdimcmpkhbfcnaaSx
namespace Go.Proofs.Ytdimcmpkhbfcnaa.pv
set_option linter.all false
open Go.RowKit
section
variable {P : Program} {T : List TI} {n : Nat} {w0 : Cx} {st : PS} {a : Act} {w : World} {ow : Nat → Bool} {hd : Nat → Value}
end
end Go.Proofs.Ytdimcmpkhbfcnaa.pv
