/- TurnPlays, where what it reads is of bulk at most 1048576, returns true and leaves its arguments alone. Condition: that bound. -/
import Derived.Test.YtiaebagjcbkkgaaLTurnPlaysA
namespace Go.Proofs.Ytiaebagjcbkkgaa.turnPlays
open Go.ChangeShapes Go.WideShapes Go.ChangeAt Go.RowKit help rep
set_option linter.all false
set_option maxHeartbeats 0 in
theorem over : Rows.turnPlaysUptoRow.holds Try.pinned (Rows.OpenSpec.upto Rows.turnPlaysSpec) :=
  OpenClaim.holds_of_cond 3 Try.f3 rfl rfl rfl rfl rfl rfl rfl ⟨rfl, rfl, rfl, rfl, rfl⟩ rfl rfl rfl rfl rfl (by as_aux_lemma => kernel_rfl) Try.func3 (by as_aux_lemma => kernel_rfl)
    (of_decide_eq_true (by as_aux_lemma => kernel_rfl)) (by unfold Func.isWrapper; first | (rw [if_pos (by decide +kernel)]; kernel_rfl) | (rw [if_neg (by decide +kernel)]; exact ⟨rfl, rfl⟩))
    (fun os started H enc _ F => lifted os started H enc F)
/-- the statement -/
theorem proved : Rows.TurnPlaysUptoSaid := over
#print axioms proved
end Go.Proofs.Ytiaebagjcbkkgaa.turnPlays
