/- Rows of rows: the acts that take an inner row out and put one in, and the step that closes a hole. -/
import Derived.Test.YtdimcmpkhbfcnaaSm
namespace Go.Proofs.Ytdimcmpkhbfcnaa.pv
set_option linter.all false
open Go.RowKit
section
variable {P : Program} {T : List TI} {n : Nat} {w0 : Cx} {st : PS} {a : Act} {w : World} {ow : Nat → Bool} {hd : Nat → Value}
end
end Go.Proofs.Ytdimcmpkhbfcnaa.pv
