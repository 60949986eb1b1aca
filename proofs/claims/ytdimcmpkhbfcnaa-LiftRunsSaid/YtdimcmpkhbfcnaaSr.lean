/- Rows of rows: masks; a hole whose row has not changed; a slice of which only the length is wanted later. -/
import Derived.Test.YtdimcmpkhbfcnaaSq
namespace Go.Proofs.Ytdimcmpkhbfcnaa.pv
set_option linter.all false
open Go.RowKit
def plus (q : Nat → Bool) (k : Nat) : Nat → Bool := fun i => q i || decide (i = k)
def qpre (q : Nat → Bool) (N : Nat) : Nat → Bool := fun k => decide (k < N) && q k
section
variable {P : Program} {T : List TI} {n : Nat} {w0 : Cx} {st : PS} {a : Act} {w : World} {ow : Nat → Bool} {hd : Nat → Value}
end
end Go.Proofs.Ytdimcmpkhbfcnaa.pv
