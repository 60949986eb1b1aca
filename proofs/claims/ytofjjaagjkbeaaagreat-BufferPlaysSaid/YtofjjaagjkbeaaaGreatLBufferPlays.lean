/- Whatever is asked of and put into a few sectors at hand is told as the document's cache tells it: for any number of slots and any sequence of Put, Get and Sync the law returns true. -/
import Derived.Test.YtofjjaagjkbeaaaGreatLBufferPlaysA
namespace Go.Proofs.YtofjjaagjkbeaaaGreat.bp
open Go.ChangeShapes Go.WideShapes Go.ChangeAt Go.RowKit help rep
set_option linter.all false
set_option maxHeartbeats 0 in
theorem over:Rows.bufferPlaysRow.holds Tryz.pinned (OpenSpec.ofChange Rows.bufferPlaysSpec) :=
 OpenClaim.holds_of_wide 3 Tryz.f3 rfl rfl rfl rfl rfl rfl rfl ⟨rfl,rfl,rfl,rfl,rfl⟩ rfl rfl rfl rfl rfl (by as_aux_lemma=>kernel_rfl) Tryz.func3 (by as_aux_lemma=>kernel_rfl)
  (of_decide_eq_true (by as_aux_lemma=>kernel_rfl)) (by unfold Func.isWrapper; first | (rw [if_pos (by decide +kernel)]; kernel_rfl) | (rw [if_neg (by decide +kernel)]; exact ⟨rfl,rfl⟩))
  (fun os started H enc _=>lifted os started H enc)
theorem proved:Rows.BufferPlaysSaid:=over
#print axioms proved
end Go.Proofs.YtofjjaagjkbeaaaGreat.bp
