/- JournalPlays returns true for all sectors, places, sizes and steps, and leaves its arguments alone. No condition. -/
import Derived.Test.YtgdhhaddfllkaaaLJournalPlaysA
namespace Go.Proofs.Ytgdhhaddfllkaaa.journalPlays
open Go.ChangeShapes Go.WideShapes Go.ChangeAt Go.RowKit help rep
set_option linter.all false
set_option maxHeartbeats 0 in
theorem over:Rows.journalPlaysRow.holds Try.pinned (OpenSpec.ofChange Rows.journalPlaysSpec) :=
 OpenClaim.holds_of_wide 3 Try.f3 rfl rfl rfl rfl rfl rfl rfl ⟨rfl,rfl,rfl,rfl,rfl⟩ rfl rfl rfl rfl rfl (by as_aux_lemma=>kernel_rfl) Try.func3 (by as_aux_lemma=>kernel_rfl)
  (of_decide_eq_true (by as_aux_lemma=>kernel_rfl)) (by unfold Func.isWrapper; first | (rw [if_pos (by decide +kernel)]; kernel_rfl) | (rw [if_neg (by decide +kernel)]; exact ⟨rfl,rfl⟩))
  (fun os started H enc _=>lifted os started H enc)
theorem proved:Rows.JournalPlaysSaid:=over
#print axioms proved
end Go.Proofs.Ytgdhhaddfllkaaa.journalPlays
