/- append(nil, ..) whose result is data at once. -/
import Derived.Test.YtdimcmpkhbfcnaaSb
namespace Go.Proofs.Ytdimcmpkhbfcnaa.pv
set_option linter.all false
open Go.RowKit
section
variable {P : Program} {T : List TI} {n : Nat} {w0 : Cx} {st : PS} {a : Act} {w : World} {ow : Nat → Bool} {hd : Nat → Value}
variable {α : Type} {f : α → PV} {Y Z : List α} {t e s l' b : Nat} {ti : TI} {x y : Operand}
end
end Go.Proofs.Ytdimcmpkhbfcnaa.pv
