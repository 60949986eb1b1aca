/- Rows of rows: a slice of one row of one's own, an element more, and what a call makes that moves elements. -/
import Derived.Test.YtdimcmpkhbfcnaaSw
namespace Go.Proofs.Ytdimcmpkhbfcnaa.pv
set_option linter.all false
open Go.RowKit
section
variable {P : Program} {T : List TI} {n : Nat} {w0 : Cx} {st : PS} {a : Act} {w : World} {ow : Nat → Bool} {hd : Nat → Value}
end
end Go.Proofs.Ytdimcmpkhbfcnaa.pv
