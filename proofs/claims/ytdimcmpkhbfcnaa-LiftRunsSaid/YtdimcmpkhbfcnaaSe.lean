/- Copies into a row with a hole; append where the capacity is known; overlaps. -/
import Derived.Test.YtdimcmpkhbfcnaaSd
namespace Go.Proofs.Ytdimcmpkhbfcnaa.pv
set_option linter.all false
open Go.RowKit
section
variable {P : Program} {T : List TI} {n : Nat} {w0 : Cx} {st : PS} {a : Act} {w : World} {ow : Nat → Bool} {hd : Nat → Value}
theorem wp_val' {o : Oper} {a : Act} {w w' : World} {v : Value} {K : Act → World → Prop} {Q : Exit → Act → World → Prop} (hrun : (execOp a.eval o).run P w = .ok (.value v) w') (h : K (a.put o.dst v) w') : o.wp P a w K Q := by
  unfold Oper.wp; rw [hrun]; exact h
variable {α : Type} {f : α → PV} {L Y Z : List α} {t t' e s l nl i j k m C : Nat} {x y : Operand} {ti : TI}
end
section
variable {P : Program} {T : List TI} {α : Type} {f : α → PV} {L Y Z : List α} {t e s l i j k m C : Nat} {x y : Operand}
end
section
variable {P : Program} {T : List TI}
end
/-- slices.Insert, over plain lists -/
def insI {α : Type} (b : Nat) (s : List α) (i : Int) (v : List α) : Option (List α) :=
  if 0 ≤ i ∧ i ≤ (s.length : Int) ∧ s.length + v.length ≤ 4611686018427387904 ∧ (s.length + v.length) * b ≤ 140737488355328 then some (s.take i.toNat ++ v ++ s.drop i.toNat) else none
end Go.Proofs.Ytdimcmpkhbfcnaa.pv
