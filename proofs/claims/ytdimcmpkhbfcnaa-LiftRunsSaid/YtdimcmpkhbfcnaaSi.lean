/- slices.Replace: a private row that is named by a part of itself; its appends, copies and overlaps. -/
import Derived.Test.YtdimcmpkhbfcnaaSe
namespace Go.Proofs.Ytdimcmpkhbfcnaa.pv
set_option linter.all false
open Go.RowKit
section
variable {P : Program} {T : List TI}
variable {α : Type} {f : α → PV} {L Y Z : List α} {t t' e s l nl i j k m C : Nat} {A B : Int} {ka kb : IntKind} {x y lo hi : Operand} {ti : TI}
end
section
variable {P : Program} {T : List TI} {α : Type} {f : α → PV} {L Y Z : List α} {t e s l i j k m C : Nat} {x y : Operand}
end
/-- slices.Replace, over plain lists: not all of it -/
def repI {α : Type} (b : Nat) (s : List α) (i j : Int) (v : List α) : Option (List α) :=
  if 0 ≤ i ∧ i < j ∧ j ≤ (s.length : Int) ∧ (v.length = 0 ∨ j - i ≤ (v.length : Int)) ∧ s.length + v.length ≤ 4611686018427387904 ∧ (s.length + v.length) * b ≤ 140737488355328 then some (s.take i.toNat ++ v ++ s.drop j.toNat) else none
end Go.Proofs.Ytdimcmpkhbfcnaa.pv
