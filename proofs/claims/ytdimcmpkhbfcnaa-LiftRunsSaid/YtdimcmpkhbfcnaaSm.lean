/- Rows of rows: what is read of them, what is taken out and put back. -/
import Derived.Test.YtdimcmpkhbfcnaaSk
import Derived.Test.YtdimcmpkhbfcnaaSh
namespace Go.Proofs.Ytdimcmpkhbfcnaa.pv
set_option linter.all false
open Go.RowKit
section
variable {P : Program} {T : List TI} {n : Nat} {w0 : Cx} {st : PS} {a : Act} {w : World} {ow : Nat → Bool} {hd : Nat → Value}
theorem cell_at {b k N : Nat} {cur : Array Value} {ty : TypeId} {cells : List Value} {u : Value} (hb : w.heap[b]? = some (.cells cur ty (0, 0))) (hc : cur.toList.take N = cells) (hu : cells[k]? = some u) : w.cell? ⟨b, k, none⟩ = some u := by
  rw [← hc, List.getElem?_take] at hu
  split at hu
  · exact cell_of_block hb hu
  · cases hu
def minus (q : Nat → Bool) (k : Nat) : Nat → Bool := fun i => q i && !decide (i = k)
end
end Go.Proofs.Ytdimcmpkhbfcnaa.pv
