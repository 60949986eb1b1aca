/- KernelStarts returns true: a kernel starts on a new disk, or tells what is wrong with its arguments, as the document says. No condition. -/
import Derived.Test.YtnkdanobhgofbaaGreatDoorLKernelStartsA
namespace Go.Proofs.YtnkdanobhgofbaaGreatDoor.kernelStarts
open Go.ChangeShapes Go.WideShapes Go.ChangeAt Go.RowKit help rep
set_option linter.all false
set_option maxHeartbeats 0 in
theorem over : Rows.kernelStartsRow.holds Tryz.pinned (OpenSpec.ofChange Rows.kernelStartsSpec) :=
  OpenClaim.holds_of_wide 3 Tryz.f3 rfl rfl rfl rfl rfl rfl rfl ⟨rfl, rfl, rfl, rfl, rfl⟩ rfl rfl rfl rfl rfl (by as_aux_lemma => kernel_rfl) Tryz.func3 (by as_aux_lemma => kernel_rfl)
    (of_decide_eq_true (by as_aux_lemma => kernel_rfl)) (by unfold Func.isWrapper; first | (rw [if_pos (by decide +kernel)]; kernel_rfl) | (rw [if_neg (by decide +kernel)]; exact ⟨rfl, rfl⟩))
    (fun os started H enc _ => lifted os started H enc)
theorem noStandIn : (Tryz.f3.params.toList.all fun u => !Tryz.prog.wantsStandIn u) = true := by kernel_rfl
theorem namedSo : Tryz.prog.funcNamed Rows.kernelStartsRow.func = some 3 := by kernel_rfl
/-- the statement -/
theorem proved : Rows.KernelStartsCardSaid :=
  Claim7.holds_tied_plain_at .later [] [.data, .pinned] true (true, "fe5e14f7b661d42be87d05582dbc2cf69bfd2f66799950e6388ae67230011e8d") false over (fun _ h => by cases h) (by kernel_rfl) (fun _ h => by cases h) kernelStarts_row_tie rfl ⟨rfl, rfl⟩ (by kernel_rfl) rfl
    (fun f fn hf hfn => by
      obtain rfl : f = 3 := (Option.some.inj (namedSo.symm.trans hf)).symm
      obtain rfl : fn = Tryz.f3 := (Option.some.inj (Tryz.func3.symm.trans hfn)).symm
      exact ⟨by kernel_rfl, fun j t ht => by
        have hm : t ∈ Tryz.f3.params.toList := Array.mem_toList_iff.2 (Array.mem_of_getElem? ht)
        exact (show Tryz.prog.wantsStandIn t = false by simpa using List.all_eq_true.1 noStandIn t hm)⟩)
    (by kernel_rfl)
#print axioms proved
end Go.Proofs.YtnkdanobhgofbaaGreatDoor.kernelStarts
