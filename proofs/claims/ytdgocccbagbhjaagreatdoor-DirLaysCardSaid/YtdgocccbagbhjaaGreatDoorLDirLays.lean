/- Entries lie as trees by their levels as the document says, and bytes are entries where the document says so: for any entries, bytes and name the law returns true. -/
import Derived.Test.YtdgocccbagbhjaaGreatDoorLDirLaysA
namespace Go.Proofs.YtdgocccbagbhjaaGreatDoor.dl
open Go.ChangeShapes Go.WideShapes Go.ChangeAt Go.RowKit help rep
set_option linter.all false
set_option maxHeartbeats 0 in
theorem over:Rows.dirLaysRow.holds Tryz.pinned (OpenSpec.ofChange Rows.dirLaysSpec) :=
 OpenClaim.holds_of_wide 3 Tryz.f3 rfl rfl rfl rfl rfl rfl rfl ⟨rfl,rfl,rfl,rfl,rfl⟩ rfl rfl rfl rfl rfl (by as_aux_lemma=>kernel_rfl) Tryz.func3 (by as_aux_lemma=>kernel_rfl)
  (of_decide_eq_true (by as_aux_lemma=>kernel_rfl)) (by unfold Func.isWrapper; first | (rw [if_pos (by decide +kernel)]; kernel_rfl) | (rw [if_neg (by decide +kernel)]; exact ⟨rfl,rfl⟩))
  (fun os started H enc _=>lifted os started H enc)
theorem noStandIn:(Tryz.f3.params.toList.all fun u=>!Tryz.prog.wantsStandIn u)=true:=by kernel_rfl
theorem namedSo:Tryz.prog.funcNamed Rows.dirLaysRow.func=some 3:=by kernel_rfl
theorem proved:Rows.DirLaysCardSaid :=
 Claim7.holds_tied_plain_at .later [] [.data,.pinned] true (true,"aa11dbf8d1a63090065a9b03ace1d2747f5f8ae8a75fae15819de35ebd89a2fc") false over (fun _ h=>by cases h) (by kernel_rfl) (fun _ h=>by cases h) dirLays_row_tie rfl ⟨rfl,rfl⟩ (by kernel_rfl) rfl
  (fun f fn hf hfn=>by
   obtain rfl:f=3:=(Option.some.inj (namedSo.symm.trans hf)).symm
   obtain rfl:fn=Tryz.f3:=(Option.some.inj (Tryz.func3.symm.trans hfn)).symm
   exact ⟨by kernel_rfl,fun j t ht=>by
    have hm:t∈Tryz.f3.params.toList:=Array.mem_toList_iff.2 (Array.mem_of_getElem? ht)
    exact (show Tryz.prog.wantsStandIn t=false by simpa using List.all_eq_true.1 noStandIn t hm)⟩)
  (by kernel_rfl)
#print axioms proved
end Go.Proofs.YtdgocccbagbhjaaGreatDoor.dl
