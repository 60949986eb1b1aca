/- SpaceTells returns true for all numbers of frames and slots and all lists of questions, and leaves its arguments alone. No condition. -/
import Derived.Test.YtmjkechkdfobgaaLSpaceTellsA
namespace Go.Proofs.Ytmjkechkdfobgaa.spaceTells
open Go.ChangeShapes Go.WideShapes Go.ChangeAt Go.RowKit help rep
set_option linter.all false
set_option maxHeartbeats 0 in
theorem over : Rows.spaceTellsRow.holds Try.pinned (OpenSpec.ofChange Rows.spaceTellsSpec) :=
  OpenClaim.holds_of_wide 4 Try.f4 rfl rfl rfl rfl rfl rfl rfl ⟨rfl, rfl, rfl, rfl, rfl⟩ rfl rfl rfl rfl rfl (by as_aux_lemma => kernel_rfl) Try.func4 (by as_aux_lemma => kernel_rfl)
    (of_decide_eq_true (by as_aux_lemma => kernel_rfl)) (by unfold Func.isWrapper; first | (rw [if_pos (by decide +kernel)]; kernel_rfl) | (rw [if_neg (by decide +kernel)]; exact ⟨rfl, rfl⟩))
    (fun os started H enc _ => lifted os started H enc)
/-- the statement -/
theorem proved : Rows.SpaceTellsSaid := over
#print axioms proved
end Go.Proofs.Ytmjkechkdfobgaa.spaceTells
