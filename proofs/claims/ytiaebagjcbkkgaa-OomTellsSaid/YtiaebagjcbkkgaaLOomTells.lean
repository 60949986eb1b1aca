/- OomTells returns true for all tasks and every number, and leaves its arguments alone. No condition. -/
import Derived.Test.YtiaebagjcbkkgaaLOomTellsA
namespace Go.Proofs.Ytiaebagjcbkkgaa.oomTells
open Go.ChangeShapes Go.WideShapes Go.ChangeAt Go.RowKit help rep
set_option linter.all false
set_option maxHeartbeats 0 in
theorem over : Rows.oomTellsRow.holds Try.pinned (OpenSpec.ofChange Rows.oomTellsSpec) :=
  OpenClaim.holds_of_wide 12 Try.f12 rfl rfl rfl rfl rfl rfl rfl ⟨rfl, rfl, rfl, rfl, rfl⟩ rfl rfl rfl rfl rfl (by as_aux_lemma => kernel_rfl) Try.func12 (by as_aux_lemma => kernel_rfl)
    (of_decide_eq_true (by as_aux_lemma => kernel_rfl)) (by unfold Func.isWrapper; first | (rw [if_pos (by decide +kernel)]; kernel_rfl) | (rw [if_neg (by decide +kernel)]; exact ⟨rfl, rfl⟩))
    (fun os started H enc _ => lifted os started H enc)
/-- the statement -/
theorem proved : Rows.OomTellsSaid := over
#print axioms proved
end Go.Proofs.Ytiaebagjcbkkgaa.oomTells
